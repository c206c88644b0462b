/- A part of the proof of FnLines: an abstract machine over the program, sound by its theorems. There is no condition. -/
import Derived.Test.YtgffmpjadffjkaaGreatDoorKmAm2
import Derived.WideKeyRuns
import Derived.MapKept
set_option linter.unusedVariables false
set_option linter.unusedSimpArgs false
namespace Km
open Go
variable {κ:Type} {Ty:κ→Type} {R:Type}
section
variable {P:Program} {C:Cod κ Ty} {T:TypeId→Option (TI κ Ty)}
variable {Mut:Nat→Prop} {Lent:Org κ Ty} {w0 w w':World} {ρ ρ':Nat→Loc} {env:Env κ Ty} {objs objs' objs1:aH κ Ty} {tm:Array Value}
theorem SRel.mpset (S:SRel C Mut Lent w0 ρ env objs tm w) {id:Nat} {k v:κ} {es es':List (Ty k×Ty v)} {h h':Option (Nat×Option Nat)} (hid:objs[id]? =some (.mp k v es h))
    (hw:Weaker objs objs1) (hid1:objs1[id]? =objs[id]?) {sub':Nat→Nat×Nat×Nat}
    (hheap:∀b,b≠(ρ id).block→w'.heap[b]? =w.heap[b]?) (hsz:w'.heap.size=w.heap.size) (hos:w'.os=w.os) (htape:w'.tape=w.tape) (hout:w'.output=w.output)
    (hfoot:∀i,i<es'.length→(∀o,h'≠some (i,o))→(sub' i).2.2≠0→aG ρ objs id (sub' i).1∨∃j,objs1[j]? =some .dead∧aG ρ objs j (sub' i).1)
    (hrel:∀(W:WStep w w' (bJ ρ objs) (bJ (upd ρ id {ρ id with sub:=sub'}) (objs1.set id (.mp k v es' h')))) (hl:objs.length≤(objs1.set id (.mp k v es' h')).length)
      (hc:∀q,Compat ρ objs (upd ρ id {ρ id with sub:=sub'}) (objs1.set id (.mp k v es' h')) q),∃mes,MpRel C w' Mut (upd ρ id {ρ id with sub:=sub'}) (objs1.set id (.mp k v es' h')) {ρ id with sub:=sub'} k v es' h' mes):
    SRel C Mut Lent w0 (upd ρ id {ρ id with sub:=sub'}) env (objs1.set id (.mp k v es' h')) tm w'∧
      ∀(x:AV κ Ty) (u:Value),VRel C w Mut ρ objs x u→VRel C w' Mut (upd ρ id {ρ id with sub:=sub'}) (objs1.set id (.mp k v es' h')) x u:=by
  have hlt:id<objs1.length:=by rw [hw.1];exact (List.getElem?_eq_some_iff.mp hid).1
  have hset:(objs1.set id (.mp k v es' h'))[id]? =some (.mp k v es' h'):=by simp [hlt]
  have hne:∀q,q≠id→(objs1.set id (.mp k v es' h'))[q]? =objs1[q]? :=fun q h=>List.getElem?_set_ne (Ne.symm h)
  have hft:∀p b,aG (upd ρ id {ρ id with sub:=sub'}) (objs1.set id (.mp k v es' h')) p b→(p≠id∧aG ρ objs p b∧objs1[p]? =objs[p]?)∨(p=id∧(aG ρ objs id b∨∃j,objs1[j]? =some .dead∧aG ρ objs j b)):=fun p b hp=>by
    by_cases e:p=id
    ·subst e
     refine .inr ⟨rfl, ?_⟩
     unfold aG at hp
     rw [hset,aV] at hp
     rcases hp with hp | ⟨i,h1,h2,h3,h4⟩
     ·refine .inl ?_
      unfold aG;rw [hid];exact .inl hp
     ·rw [←h4];exact hfoot i h1 h2 h3
    ·refine .inl ⟨e, ?_⟩
     unfold aG at hp
     rw [hne p e,dJ _ _ _ e] at hp
     rcases hw.2 p with e' | e'
     ·rw [e'] at hp;exact ⟨hp,e'⟩
     ·rw [e'] at hp;exact hp.elim
  have hback:∀p b,aG (upd ρ id {ρ id with sub:=sub'}) (objs1.set id (.mp k v es' h')) p b→bJ ρ objs b:=fun p b hp=>by
    rcases hft p b hp with ⟨_,h,_⟩ | ⟨_,h | ⟨j,_,h⟩⟩
    ·exact ⟨p,h⟩
    ·exact ⟨_,h⟩
    ·exact ⟨j,h⟩
  have hmap:aG ρ objs id (ρ id).block:=by unfold aG;rw [hid];exact .inl rfl
  have W:WStep w w' (bJ ρ objs) (bJ (upd ρ id {ρ id with sub:=sub'}) (objs1.set id (.mp k v es' h'))):=
    ⟨fun b _ hn=>hheap b (fun e=>hn ⟨id,by rw [e];exact hmap⟩),by omega,fun b ⟨p,hp⟩=> .inl (hback p b hp)⟩
  have hl:objs.length≤(objs1.set id (.mp k v es' h')).length:=by simp [hw.1]
  have hc:∀q,Compat ρ objs (upd ρ id {ρ id with sub:=sub'}) (objs1.set id (.mp k v es' h')) q:=fun q=>by
    by_cases e:q=id
    ·subst e;unfold Compat;rw [hid];exact .inl ⟨_,_,hset,by rw [aV]⟩
    ·rcases hw.2 q with e' | e'
     ·exact Compat.of_eq (fun _=>(hne q e).trans e') (fun _=>dJ _ _ _ e)
     ·exact AZ ((hne q e).trans e')
  refine ⟨S.step W hl hc (fun q=> ?_) (fun p q b hp hq=> ?_) hos htape hout,fun x u hx=>hx.step W hl hc⟩
  ·by_cases e:q=id
   ·subst e
    obtain ⟨mes,hm⟩:=hrel W hl hc
    unfold ORel
    rw [hset,aV]
    exact ⟨mes,hm⟩
   ·rcases hw.2 q with e' | e'
    ·refine ORel.step W hl hc (S.ob q) (by rw [hne q e,e']) (dJ _ _ _ e) (fun b hb=>hheap b fun eb=> ?_)
     rw [eb] at hb
     exact e (S.inj _ _ _ hb hmap)
    ·unfold ORel;rw [hne q e,e'];trivial
  ·have dead:∀j b,objs1[j]? =some .dead→∀p,objs1[p]? =objs[p]? →aG ρ objs p b→aG ρ objs j b→False:=fun j b hj p hp1 hp hjb=>by
     have:=S.inj _ _ _ hp hjb
     subst this
     unfold aG at hp;rw [←hp1,hj] at hp;exact hp
   rcases hft p b hp with ⟨a1,a2,a3⟩ | ⟨a1,a2⟩<;>rcases hft q b hq with ⟨b1,b2,b3⟩ | ⟨b1,b2⟩
   ·exact S.inj _ _ _ a2 b2
   ·rcases b2 with b2 | ⟨j,j1,j2⟩
    ·exact absurd (S.inj _ _ _ a2 b2) a1
    ·exact (dead j b j1 p a3 a2 j2).elim
   ·rcases a2 with a2 | ⟨j,j1,j2⟩
    ·exact absurd (S.inj _ _ _ b2 a2) b1
    ·exact (dead j b j1 q b3 b2 j2).elim
   ·rw [a1,b1]
theorem MpRel.put {L:Loc} {k v:κ} {es:List (Ty k×Ty v)} {h:Option (Nat×Option Nat)} {mes mes':Array MapEntry} (H:MpRel C w Mut ρ objs L k v es h mes) {n:Nat} {e:Ty k×Ty v} (he:es[n]? =some e)
    (hh:∀i o,h=some (i,o)→i=n) {y:Ty v} {L':Nat×Nat×Nat} {val:Value}
    (W:WStep w w' (bJ ρ objs) (bJ ρ' objs')) (hl:objs.length≤objs'.length) (hc:∀q,Compat ρ objs ρ' objs' q) (hheap:∀b,b≠L.block→w'.heap[b]? =w.heap[b]?)
    (hat:w'.heap[L.block]? =some (.map mes' mes'.size)) (hs:mes'.size=mes.size) (ho:∀q,q≠n→mes'[q]? =mes[q]?) (hn:∀me,mes[n]? =some me→∃me',mes'[n]? =some me'∧me'.key=me.key∧me'.born=me.born∧me'.val=val)
    (hv:EntR C w' Mut ρ' objs' L' (C.enc v y) val) (hd:∀i,i<es.length→i≠n→(∀o,h≠some (i,o))→(L.sub i).2.2≠0→L'.2.2≠0→(L.sub i).1≠L'.1) (hb:L'.2.2≠0→L'.1≠L.block):
    MpRel C w' Mut ρ' objs' {L with sub:=fun q=>if q=n then L' else L.sub q} k v (es.set n (e.1,y)) none mes':=by
  have hlt:=(List.getElem?_eq_some_iff.mp he).1
  have hset:∀q e',(es.set n (e.1,y))[q]? =some e'→(q=n∧e'=(e.1,y))∨(q≠n∧es[q]? =some e'):=fun q e' hq=>by
    by_cases eq:q=n
    ·subst eq;simp [hlt] at hq;exact .inl ⟨rfl,hq.symm⟩
    ·rw [List.getElem?_set_ne (Ne.symm eq)] at hq;exact .inr ⟨eq,hq⟩
  have hno:∀q,q≠n→∀o,h≠some (q,o):=fun q hq o ho=>hq (hh q o ho)
  refine ⟨by simp [hs,H.size],hat,fun q e' hq=> ?_,fun q e' me hq hm _=> ?_,fun q o me hq=>(by cases hq),fun q o hq=>(by cases hq),fun q hq _ hcap=> ?_,fun p q hp hq _ _ hcp hcq hpq=> ?_⟩
  ·rcases hset q e' hq with ⟨rfl,rfl⟩ | ⟨hqn,hq⟩
   ·obtain ⟨h1,me,h2,h3,h4⟩:=H.key q e he
    obtain ⟨me',g1,g2,g3,_⟩:=hn me h2
    exact ⟨h1,me',g1,by rw [g3,h3],by rw [g2];exact h4.step W hl hc⟩
   ·obtain ⟨h1,me,h2,h3,h4⟩:=H.key q e' hq
    exact ⟨h1,me,by rw [ho q hqn];exact h2,h3,h4.step W hl hc⟩
  ·rcases hset q e' hq with ⟨rfl,rfl⟩ | ⟨hqn,hq⟩
   ·obtain ⟨_,me0,h2,_⟩:=H.key q e he
    obtain ⟨me',g1,_,_,g4⟩:=hn me0 h2
    rw [g1] at hm;cases hm
    simp only [if_true]
    rw [g4];exact hv
   ·rw [ho q hqn] at hm
    simp only [if_neg hqn]
    refine (H.val q e' me hq hm (hno q hqn)).step W hl hc fun b hb1 hb2=>hheap b fun eb=> ?_
    exact H.own q (List.getElem?_eq_some_iff.mp hq).1 (hno q hqn) hb1 (by rw [hb2,eb])
  ·simp only [List.length_set] at hq
   by_cases eq:q=n
   ·subst eq;simp only [if_true] at hcap⊢;exact hb hcap
   ·simp only [if_neg eq] at hcap⊢;exact H.own q hq (hno q eq) hcap
  ·simp only [List.length_set] at hp hq
   by_cases ep:p=n<;>by_cases eq:q=n
   ·rw [ep,eq]
   ·subst ep;simp only [if_true,if_neg eq] at hcp hcq hpq
    exact absurd hpq.symm (hd q hq eq (hno q eq) hcq hcp)
   ·subst eq;simp only [if_true,if_neg ep] at hcp hcq hpq
    exact absurd hpq (hd p hp ep (hno p ep) hcp hcq)
   ·simp only [if_neg ep,if_neg eq] at hcp hcq hpq
    exact H.disj p q hp hq (hno p ep) (hno q eq) hcp hcq hpq
theorem Q6 {j:Nat} {s:κ} {xs:List (Ty s)} (h:objs[j]? =some (.sl s xs)) {u:Value} (hv:VRel C w Mut ρ objs (.own j) u):∃A,u= .slice A xs.length (ρ j).cap∧((ρ j).cap≠0→A=some (at' (ρ j).block (ρ j).off)):=by
  cases hv with
  | own h1 hA=>rw [h] at h1;cases h1;exact ⟨_,rfl,hA⟩
  | ownd hc hin h1=>rw [eP_ h] at h1;cases h1
theorem xO (HC:bH C) (S:SRel C Mut Lent w0 ρ env objs tm w) (id:Nat):
    ∃ρ',SRel C Mut Lent w0 ρ' env (zU C id objs) tm w∧∀(x:AV κ Ty) (u:Value),VRel C w Mut ρ objs x u→VRel C w Mut ρ' (zU C id objs) x u:=by
  unfold zU
  split
  ·rename_i k v es i j hid
   split
   ·rename_i s xs hsl
    split
    ·exact ⟨ρ,S,fun _ _ h=>h⟩
    ·rename_i hne
     split
     ·rename_i y hdec
      have hne:id≠j:=fun e=>by subst e;simp at hne
      have hso:=S.ob id
      simp only [ORel,hid] at hso
      obtain ⟨mes,H⟩:=hso
      have hi:=H.hlt i _ rfl
      have he:es[i]? =some es[i]:=List.getElem?_eq_getElem hi
      have hm:mes[i]? =some (mes[i]'(by rw [H.size];exact hi)):=Array.getElem?_eq_getElem _
      have hv:=(H.hole i (some j) _ rfl hm).2 j rfl
      have hsl':=cB hsl
      have hjo:=S.ob j
      simp only [ORel,hsl'] at hjo
      have hjo:SlAt C w Mut ρ objs (ρ j).block (ρ j).off (ρ j).cap s xs:=hjo
      have hmod:es.modify i (fun e=>(e.1,y))=es.set i (es[i].1,y):=by
        apply List.ext_getElem?
        intro q
        rw [List.getElem?_modify,List.getElem?_set]
        by_cases e:i=q
        ·subst e;simp [hi]
        ·simp [e]
      rw [hmod]
      have hfj:(ρ j).cap≠0→aG ρ objs j (ρ j).block:=fun hcap=>dA hsl' hcap
      have hfi:∀q,q<es.length→(∀o,some (i,some j)≠some (q,o))→((ρ id).sub q).2.2≠0→aG ρ objs id ((ρ id).sub q).1:=fun q h1 h2 h3=>by
        unfold aG;rw [hid];exact .inr ⟨q,h1,h2,h3,rfl⟩
      have hfb:aG ρ objs id (ρ id).block:=by unfold aG;rw [hid];exact .inl rfl
      refine ⟨_,SRel.mpset S hid (objs1:=objs.set j .dead) (.kill objs j) (List.getElem?_set_ne (Ne.symm hne)) (sub':=fun q=>if q=i then ((ρ j).block,(ρ j).off,(ρ j).cap) else (ρ id).sub q) (fun _ _=>rfl) rfl rfl rfl rfl
        (fun q hq _ hcap=> ?_) (fun W hl hc=>⟨mes,H.put he (fun i' o ho=>by cases ho;rfl) (val:=(mes[i]'(by rw [H.size];exact hi)).val) W hl hc (fun _ _=>rfl) H.at_ rfl (fun _ _=>rfl) (fun me hme=>⟨me,hme,rfl,rfl, ?_⟩) ?_ (fun q hq hqi hn hcq hcj e=> ?_) (fun hcj e=> ?_)⟩)⟩
      ·by_cases e:q=i
       ·subst e
        simp only [if_true] at hcap⊢
        have hj:=(List.getElem?_eq_some_iff.mp hsl').1
        exact .inr ⟨j,by simp [hj],hfj hcap⟩
       ·simp only [if_neg e] at hcap⊢
        simp only [List.length_set] at hq
        exact .inl (hfi q hq (fun o ho=>by cases ho;exact e rfl) hcap)
      ·rw [hm] at hme;cases hme;rfl
      ·rw [HC.dec _ _ _ hdec]
       obtain ⟨A,h1,h2⟩:=Q6 hsl' hv
       exact ⟨A,h1,h2,hjo.step W hl hc (fun _=>rfl)⟩
      ·have h1:=hfi q hq hn hcq
       have h2:=hfj hcj
       dsimp only at e
       rw [e] at h1
       exact hne (S.inj _ _ _ h1 h2)
      ·have h2:=hfj hcj
       dsimp only at e
       rw [e] at h2
       exact hne (S.inj _ _ _ hfb h2)
     ·exact ⟨ρ,S,fun _ _ h=>h⟩
   ·exact ⟨ρ,S,fun _ _ h=>h⟩
  ·exact ⟨ρ,S,fun _ _ h=>h⟩
theorem C8 (HC:bH C):∀(n:Nat) (objs:aH κ Ty) (ρ:Nat→Loc),SRel C Mut Lent w0 ρ env objs tm w→
    ∃ρ',SRel C Mut Lent w0 ρ' env (K3 C n objs) tm w∧∀(x:AV κ Ty) (u:Value),VRel C w Mut ρ objs x u→VRel C w Mut ρ' (K3 C n objs) x u
  | 0,objs,ρ,S=>⟨ρ,S,fun _ _ h=>h⟩
  | n+1,objs,ρ,S=>by
    obtain ⟨ρ1,a1,a2⟩:=xO HC S n
    obtain ⟨ρ2,b1,b2⟩:=C8 HC n _ ρ1 a1
    exact ⟨ρ2,b1,fun x u h=>b2 x u (a2 x u h)⟩
theorem SRel.mpout (S:SRel C Mut Lent w0 ρ env objs tm w) {id:Nat} {k v:κ} {es:List (Ty k×Ty v)} (hid:objs[id]? =some (.mp k v es none)) {mes:Array MapEntry} (H:MpRel C w Mut ρ objs (ρ id) k v es none mes)
    {i:Nat} {e:Ty k×Ty v} (he:es[i]? =some e) {b:Bool} {s:κ} {xs:List (Ty s)} (henc:C.enc v e.2=[.inl b s xs]) {me:MapEntry} (hm:mes[i]? =some me):
    ∃ρ',SRel C Mut Lent w0 ρ' env (objs.set id (.mp k v es (some (i,some objs.length)))++[.sl s xs]) tm w∧VRel C w Mut ρ' (objs.set id (.mp k v es (some (i,some objs.length)))++[.sl s xs]) (.own objs.length) me.val∧
     ∀(x:AV κ Ty) (u:Value),VRel C w Mut ρ objs x u→VRel C w Mut ρ' (objs.set id (.mp k v es (some (i,some objs.length)))++[.sl s xs]) x u:=by
  have hlt:=(List.getElem?_eq_some_iff.mp hid).1
  have hil:=(List.getElem?_eq_some_iff.mp he).1
  have hv:=H.val i e me he hm (fun o h=>by cases h)
  rw [henc] at hv
  obtain ⟨A,hv1,hv2,hv3⟩:=hv
  generalize hO:objs.set id (.mp k v es (some (i,some objs.length)))++[AObj.sl s xs]=O
  generalize hρ:upd ρ objs.length ⟨((ρ id).sub i).1,((ρ id).sub i).2.1,((ρ id).sub i).2.2,noSub⟩=ρ'
  have hlen:(objs.set id (AObj.mp k v es (some (i,some objs.length)))).length=objs.length:=by simp
  have o_new:O[objs.length]? =some (.sl s xs):=by
    rw [←hO,List.getElem?_append_right (by simp)];simp
  have o_id:O[id]? =some (.mp k v es (some (i,some objs.length))):=by
    rw [←hO,dS (by rw [hlen];exact hlt)];simp [hlt]
  have o_else:∀q,q≠id→q<objs.length→O[q]? =objs[q]? :=fun q h1 h2=>by
    rw [←hO,dS (by rw [hlen];exact h2),List.getElem?_set_ne (Ne.symm h1)]
  have o_out:∀q,objs.length<q→O[q]? =none:=fun q h=>by
    rw [←hO];exact List.getElem?_eq_none (by simp;omega)
  have r_new:ρ' objs.length=⟨((ρ id).sub i).1,((ρ id).sub i).2.1,((ρ id).sub i).2.2,noSub⟩:=by rw [←hρ,aV]
  have r_else:∀q,q<objs.length→ρ' q=ρ q:=fun q h=>by rw [←hρ];exact dJ _ _ _ (by omega)
  have hblk:aG ρ objs id (ρ id).block:=by unfold aG;rw [hid];exact .inl rfl
  have hent:∀q,q<es.length→((ρ id).sub q).2.2≠0→aG ρ objs id ((ρ id).sub q).1:=fun q h1 h3=>by
    unfold aG;rw [hid];exact .inr ⟨q,h1,fun o h=>(by cases h),h3,rfl⟩
  have hft:∀p b,aG ρ' O p b→(p<objs.length∧p≠id∧aG ρ objs p b)∨(p=id∧aG ρ objs id b∧(((ρ id).sub i).2.2≠0→b≠((ρ id).sub i).1))∨(p=objs.length∧((ρ id).sub i).2.2≠0∧b=((ρ id).sub i).1∧aG ρ objs id b):=fun p b hp=>by
    unfold aG at hp
    by_cases e1:p=id
    ·subst e1
     rw [o_id,r_else p hlt] at hp
     refine .inr (.inl ⟨rfl, ?_⟩)
     rcases hp with hp | ⟨q,h1,h2,h3,h4⟩
     ·rw [←hp];exact ⟨hblk,fun hc=>Ne.symm (H.own i hil (fun o h=>(by cases h)) hc)⟩
     ·have hqi:q≠i:=fun e=>h2 _ (by rw [e])
      rw [←h4]
      exact ⟨hent q h1 h3,fun hc e=>hqi (H.disj q i h1 hil (fun o h=>(by cases h)) (fun o h=>(by cases h)) h3 hc e)⟩
    ·by_cases e2:p<objs.length
     ·rw [o_else p e1 e2,r_else p e2] at hp
      exact .inl ⟨e2,e1,hp⟩
     ·by_cases e3:p=objs.length
      ·subst e3
       rw [o_new,r_new] at hp
       exact .inr (.inr ⟨rfl,hp.1,hp.2.symm,by rw [←hp.2];exact hent i hil hp.1⟩)
      ·rw [o_out p (by omega)] at hp;exact hp.elim
  have W:WStep w w (bJ ρ objs) (bJ ρ' O):=WStep.same fun b ⟨p,hp⟩=>by
    rcases hft p b hp with ⟨_,_,h⟩ | ⟨_,h,_⟩ | ⟨_,_,_,h⟩
    ·exact ⟨p,h⟩
    ·exact ⟨id,h⟩
    ·exact ⟨id,h⟩
  have hl:objs.length≤O.length:=by rw [←hO];simp
  have hc:∀q,Compat ρ objs ρ' O q:=fun q=>by
    by_cases e1:q=id
    ·subst e1;unfold Compat;rw [hid];exact .inl ⟨_,_,o_id,by rw [r_else _ hlt]⟩
    ·exact Compat.of_eq (fun h=>o_else q e1 h) (fun h=>r_else q h)
  have hown:VRel C w Mut ρ' O (.own objs.length) me.val:=by
    have:=VRel.own (C:=C) (w:=w) (Mut:=Mut) (ρ:=ρ') (A:=A) o_new (fun h=>by rw [r_new] at h⊢;exact hv2 h)
    rw [r_new] at this
    rw [hv1];exact this
  refine ⟨ρ',S.step W hl hc (fun q=> ?_) (fun p q b hp hq=> ?_) rfl rfl rfl,hown,fun x u hx=>hx.step W hl hc⟩
  ·by_cases e1:q=id
   ·subst e1
    unfold ORel
    rw [o_id,r_else _ hlt]
    refine ⟨mes,H.size,H.at_,fun q' e' he'=> ?_,fun q' e' me' he' hm' hn=> ?_,fun q' o me' ho hm'=> ?_,fun q' o ho=> ?_,fun q' hq' _=>H.own q' hq' (fun o h=>by cases h),fun p' q' hp' hq' _ _=>H.disj p' q' hp' hq' (fun o h=>by cases h) (fun o h=>by cases h)⟩
    ·obtain ⟨h1,me',h2,h3,h4⟩:=H.key q' e' he'
     exact ⟨h1,me',h2,h3,h4.step W hl hc⟩
    ·exact (H.val q' e' me' he' hm' (fun o h=>by cases h)).step W hl hc (fun _ _ _=>rfl)
    ·cases ho
     rw [hm] at hm';cases hm'
     exact ⟨by rw [hv1];rfl,fun j hj=>by cases hj;exact hown⟩
    ·cases ho;exact hil
   ·by_cases e2:q<objs.length
    ·exact ORel.step W hl hc (S.ob q) (o_else q e1 e2) (r_else q e2) (fun _ _=>rfl)
    ·by_cases e3:q=objs.length
     ·subst e3
      unfold ORel
      rw [o_new,r_new]
      exact hv3.step W hl hc (fun _=>rfl)
     ·unfold ORel;rw [o_out q (by omega)];trivial
  ·rcases hft p b hp with ⟨a1,a2,a3⟩ | ⟨a1,a2,a3⟩ | ⟨a1,a2,a3,a4⟩<;>rcases hft q b hq with ⟨b1,b2,b3⟩ | ⟨b1,b2,b3⟩ | ⟨b1,b2,b3,b4⟩
   ·exact S.inj _ _ _ a3 b3
   ·exact absurd (S.inj _ _ _ a3 b2) a2
   ·exact absurd (S.inj _ _ _ a3 b4) a2
   ·exact absurd (S.inj _ _ _ b3 a2) b2
   ·rw [a1,b1]
   ·exact absurd b3 (a3 b2)
   ·exact absurd (S.inj _ _ _ b3 a4) b2
   ·exact absurd a3 (b3 a2)
   ·rw [a1,b1]
theorem tY {α β:Type} {q:α→Bool}:∀{es:List (α×β)} {n:Nat} {p:Nat×β},cC q es n=some p→n≤p.1∧∃a,es[p.1-n]? =some (a,p.2)∧q a=true
  | [],n,p,h=>by cases h
  | (a,b)::es,n,p,h=>by
    simp only [cC] at h
    split at h
    ·rename_i hq;cases h;exact ⟨Nat.le_refl _,a,by simp,hq⟩
    ·obtain ⟨h1,a',h2,h3⟩:=tY h
     refine ⟨by omega,a', ?_,h3⟩
     rw [show p.1-n=(p.1-(n+1))+1 by omega];simpa using h2
theorem O5 {em:Bool} {n:Nat} {t:TypeId} {u:Value} (h:P.underlying t=some .string∨∃q,P.underlying t=some (.int q)):(Instr.checkKey em (n+1) t u).run P w= .ok () w:=by
  rcases h with h | ⟨q,h⟩<;>unfold Instr.checkKey<;>simp only [Sem.run_bind,run_underlying h,Result.andThen_ok]<;>cases u<;>rfl
theorem w6 (HT:TOk P C T) {t kt et:TypeId} {ti:TI κ Ty} {k v:κ} (ht:T t=some ti) (hs:ti.shp= .map kt et k v) {x:Ty k} {u:Value} (hu:VRel C w Mut ρ objs (.agg (C.enc k x)) u) (em:Bool):
    (Instr.checkKey em 10000 kt u).run P w= .ok () w:=by
  obtain ⟨_,haeq,⟨tk,fs,hk1,hk2,hk3⟩,_⟩:=HT.map t ti kt et k v ht hs
  have ha:=haeq x x
  obtain ⟨fields,hund,hfs,_⟩:=HT.struct kt tk fs hk1 hk2
  obtain ⟨_,_,hnm⟩:=HT.seq kt tk fs hk1 hk2
  have hnm:=hnm fields hund
  unfold aeq at ha
  rw [hk1] at ha;dsimp only at ha
  rw [hk2] at ha;dsimp only at ha
  cases hu with
  | agg l1 c1 r1=>
    rename_i us
    rw [show (10000:Nat)=9999+1 from rfl,Instr.checkKey]
    simp only [Sem.run_bind,run_underlying hund,Result.andThen_ok]
    rw [←Array.forIn_toList]
    rw [←hfs] at ha hk3
    generalize C.keq k x x=b0 at ha
    generalize fields.toList=L at ha hk3 hnm
    induction L generalizing b0 with
    | nil=>simp
    | cons f L ih=>
      simp only [List.map_cons,cd_] at ha
      split at ha
      ·rename_i tf htf
       split at ha
       ·rename_i p q hp hq
        split at ha
        ·rename_i r hr
         split at ha
         ·rename_i r' hr'
          obtain ⟨a,a1,a2⟩:=yJ (P:=P) HT htf ⟨l1,c1,r1⟩ hp
          obtain ⟨tf',g1,g2⟩:=hk3 _ (List.mem_cons_self ..)
          rw [htf] at g1;cases g1
          have hflat:P.underlying f.type=some .string∨∃q,P.underlying f.type=some (.int q):=by
            rcases g2 with ⟨q,hq⟩ | hq
            ·exact .inr ⟨q,HT.int _ _ _ htf hq⟩
            ·exact .inl (HT.str _ _ htf hq)
          have hn:=hnm f (List.mem_cons_self ..)
          have hck:(Instr.checkKey em 9999 f.type a).run P w= .ok () w:=O5 (n:=9998) hflat
          simp only [List.forIn_cons,Sem.run_bind,hn,ne_eq,not_false_eq_true,if_true,Result.andThen_ok,a1,hck,Sem.run_pure]
          exact ih r' hr' (fun g hg=>hk3 g (List.mem_cons_of_mem _ hg)) (fun g hg=>hnm g (List.mem_cons_of_mem _ hg))
         ·cases ha
        ·cases ha
       ·cases ha
      ·cases ha
theorem zM (HT:TOk P C T) {kt:TypeId} {k v:κ} (haeq:∀x y,aeq T 8 kt (.agg (C.enc k x)) (.agg (C.enc k y))=some (C.keq k x y)) {x:Ty k} {u:Value} (hu:VRel C w Mut ρ objs (.agg (C.enc k x)) u):
    ∀(es:List (Ty k×Ty v)) (ms:List MapEntry) (n:Nat),ms.length=es.length→(∀(q:Nat) (e:Ty k×Ty v),es[q]? =some e→∃me:MapEntry,ms[q]? =some me∧VRel C w Mut ρ objs (.agg (C.enc k e.1)) me.key)→
     (Instr.findAsking kt u ms n).run P w= .ok ((cC (C.keq k x) es n).map fun p=>(p.1,((ms[p.1-n]?).map (·.val)).getD default)) w
  | [],[],n,_,_=>by simp [Instr.findAsking,cC]
  | [],_::_,_,h,_=>by simp at h
  | _::_,[],_,h,_=>by simp at h
  | e::es,m::ms,n,hl,hr=>by
    obtain ⟨me,h1,h2⟩:=hr 0 e rfl
    simp only [List.getElem?_cons_zero,Option.some.injEq] at h1
    subst h1
    have he:(Op.equal kt u m.key).run P w= .ok (C.keq k x e.1) w:=JU (P:=P) HT 8 9992 kt _ _ _ _ _ (haeq x e.1) hu h2
    have ih:=zM HT haeq hu es ms (n+1) (by simpa using hl) (fun q e' hq=>hr (q+1) e' (by simpa using hq))
    obtain ⟨a,b⟩:=e
    simp only [Instr.findAsking,Sem.run_bind,he,Result.andThen_ok,cC]
    cases hk:C.keq k x a with
    | true=>simp
    | false=>
      simp only [Bool.false_eq_true,if_false]
      rw [ih]
      cases hm:cC (C.keq k x) es (n+1) with
      | none=>rfl
      | some p=>
        obtain ⟨h1,_⟩:=tY hm
        simp only [Option.map_some]
        rw [show p.1-n=(p.1-(n+1))+1 by omega,List.getElem?_cons_succ]
theorem AP (HT:TOk P C T) {t kt et:TypeId} {ti:TI κ Ty} {k v:κ} (ht:T t=some ti) (hs:ti.shp= .map kt et k v) {x:Ty k} {u:Value} (hu:VRel C w Mut ρ objs (.agg (C.enc k x)) u) {L:Loc} {es:List (Ty k×Ty v)} {h:Option (Nat×Option Nat)}
    {mes:Array MapEntry} (H:MpRel C w Mut ρ objs L k v es h mes):(Instr.findKey kt u mes.toList).run P w= .ok ((cC (C.keq k x) es 0).map fun p=>(p.1,((mes[p.1]?).map (·.val)).getD default)) w:=by
  obtain ⟨_,haeq,⟨tk,fs,hk1,hk2,hk3⟩,_⟩:=HT.map t ti kt et k v ht hs
  obtain ⟨fields,hund,_⟩:=HT.struct kt tk fs hk1 hk2
  rw [run_findKey_eq (P:=P) (w:=w) (k:=kt) (by rw [hund])]
  have:=zM (v:=v) HT haeq hu es mes.toList 0 (by simp [H.size]) (fun q e hq=>by
    obtain ⟨_,me,h1,_,h3⟩:=H.key q e hq
    exact ⟨me,by simpa using h1,h3⟩)
  rw [this];simp
theorem JC (HC:bH C) {kt et:TypeId} {k v:κ} {m key:AV κ Ty} {K:Nat→(k v:κ)→List (Ty k×Ty v)→Ty k→Option R} {r:R} (h:aU_ C objs (.map kt et k v) m key K=some r):
    ∃id es x,m= .mapv id∧objs[id]? =some (.mp k v es none)∧key= .agg (C.enc k x)∧K id k v es x=some r:=by
  unfold aU_ at h
  split at h
  ·rename_i kt' et' k1 v1 id hsh
   cases hsh
   split at h
   ·rename_i k' v' es hid
    split at h
    ·rename_i hsame
     simp only [Bool.and_eq_true] at hsame
     have e1:=HC.same _ _ hsame.1
     have e2:=HC.same _ _ hsame.2
     subst e1;subst e2
     split at h
     ·rename_i ks _
      split at h
      ·rename_i x hx
       exact ⟨id,es,x,rfl,hid,by rw [HC.dec _ _ _ hx],h⟩
      ·cases h
     ·cases h
    ·cases h
   ·cases h
  ·cases h
theorem HD {id:Nat} {k v:κ} {es:List (Ty k×Ty v)} {h:Option (Nat×Option Nat)} (hid:objs[id]? =some (.mp k v es h)) {u:Value} (hu:VRel C w Mut ρ objs (.mapv id) u):u= .map (some (ρ id).block):=by
  cases hu with
  | mapv h1=>rfl
  | mapd hc hin h1=>rw [es_ hid] at h1;cases h1
theorem ed_ {cs:List (AV κ Ty)} (hl:∀c∈cs,∃v,c= .lit v) {u1 u2:Value} (h1:VRel C w Mut ρ objs (.agg cs) u1) (h2:VRel C w Mut ρ objs (.agg cs) u2):u1=u2:=by
  cases h1 with
  | agg l1 c1 r1=>
    cases h2 with
    | agg l2 c2 r2=>
      rename_i us qs
      congr 1
      have:us=qs:=by
        apply List.ext_getElem?
        intro j
        by_cases hj:j<cs.length
        ·have e1:us[j]? =some (us[j]'(by omega)):=List.getElem?_eq_getElem _
         have e2:qs[j]? =some (qs[j]'(by omega)):=List.getElem?_eq_getElem _
         have ec:cs[j]? =some cs[j]:=List.getElem?_eq_getElem hj
         obtain ⟨v,hv⟩:=hl cs[j] (List.getElem_mem hj)
         rw [hv] at ec
         have g1:=(a7 (r1 j _ _ ec e1)).1
         have g2:=(a7 (r2 j _ _ ec e2)).1
         rw [e1,e2,g1,g2]
        ·rw [List.getElem?_eq_none (by omega),List.getElem?_eq_none (by omega)]
      rw [this]
theorem PR {cs:List (AV κ Ty)} (hl:∀c∈cs,(∃q n,c= .lit (.int q n))∨∃s,c= .lit (.string s)) {u:Value} (h1:VRel C w Mut ρ objs (.agg cs) u) (n:Nat):Instr.sameBits (n+1) u u=true:=by
  cases h1 with
  | agg l1 c1 r1=>
    rename_i us
    simp only [Instr.sameBits,beq_self_eq_true,Bool.true_and,List.all_eq_true]
    intro p hp
    obtain ⟨j,hj⟩:=List.getElem?_of_mem hp
    simp only [List.getElem?_zip_eq_some] at hj
    obtain ⟨h1,h2⟩:=hj
    have hjl:j<cs.length:=by have:=(List.getElem?_eq_some_iff.mp h1).1;omega
    have ec:cs[j]? =some cs[j]:=List.getElem?_eq_getElem hjl
    have e12:p.1=p.2:=by rw [h1] at h2;exact Option.some.inj h2
    rcases hl cs[j] (List.getElem_mem hjl) with ⟨q,m,hv⟩ | ⟨s,hv⟩
    ·rw [hv] at ec
     have g1:=(a7 (r1 j _ _ ec h1)).1
     rw [←e12,g1];cases n<;>simp [Instr.sameBits]
    ·rw [hv] at ec
     have g1:=(a7 (r1 j _ _ ec h1)).1
     have hss:(s==s)=true:=by simp [MapKept.bytes_beq]
     rw [←e12,g1];cases n<;>simp [Instr.sameBits,hss]
theorem PS (S:SRel C Mut Lent w0 ρ env objs tm w) (t:TypeId) (k v:κ):
    ∃u w' ρ',(Instr.makeMap t none).run P w= .ok u w'∧SRel C Mut Lent w0 ρ' env (objs++[.mp k v [] none]) tm w'∧VRel C w' Mut ρ' (objs++[.mp k v [] none]) (.mapv objs.length) u:=by
  refine ⟨.map (some w.heap.size),w.alloc (.map #[] 0),upd ρ objs.length ⟨w.heap.size,0,0,noSub⟩, ?_, ?_, ?_⟩
  ·rfl
  ·refine (S.fresh (o:= .mp k v [] none) (l:=⟨w.heap.size,0,0,noSub⟩) (w':=w.alloc (.map #[] 0)) (fun b h=>cT w _ h) (by simp) (Nat.le_refl _) (fun W=> ?_) rfl rfl rfl).2
   unfold ORel
   rw [bW,aV]
   refine ⟨#[],rfl, ?_,fun i e h=>by simp at h,fun i e me h=>by simp at h,fun i o me h=>(by cases h),fun i o h=>(by cases h),fun i h=>by simp at h,fun i j h=>by simp at h⟩
   exact (MapKept.heap_alloc w (.map #[] 0)).1
  ·have:=VRel.mapv (C:=C) (w:=w.alloc (.map #[] 0)) (Mut:=Mut) (ρ:=upd ρ objs.length ⟨w.heap.size,0,0,noSub⟩) (bW objs (.mp k v [] none))
   rw [aV] at this
   exact this
theorem OI (S:SRel C Mut Lent w0 ρ env objs tm w) {id:Nat} {k v:κ} {es:List (Ty k×Ty v)} (hid:objs[id]? =some (.mp k v es none)) {mes:Array MapEntry} (H:MpRel C w Mut ρ objs (ρ id) k v es none mes)
    {p:Nat×Ty v} {e:Ty k×Ty v} (he:es[p.1]? =some e) (hp:e.2=p.2) {me:MapEntry} (hm:mes[p.1]? =some me) {K:AV κ Ty→aH κ Ty→Option R} {r:R} (h:dm_ C objs id k v es p K=some r):
    ∃x objs' ρ',K x objs'=some r∧SRel C Mut Lent w0 ρ' env objs' tm w∧VRel C w Mut ρ' objs' x me.val:=by
  unfold dm_ at h
  split at h
  ·rename_i u henc
   have hv:=H.val p.1 e me he hm (fun o h=>by cases h)
   rw [hp,henc] at hv
   refine ⟨_,_,ρ,h,S, ?_⟩
   rw [hv.1];exact .lit hv.2.1
  ·rename_i b s xs henc
   obtain ⟨ρ',g1,g2,_⟩:=S.mpout hid H he (by rw [hp];exact henc) hm
   exact ⟨_,_,ρ',h,g1,g2⟩
  ·cases h
theorem db_ {et:TypeId} {i:TypeInfo} {z:Value} (h1:P.info? et=some i) (h2:i.zero=some z):(zeroValue et).run P w= .ok z w:=by
  simp [zeroValue,OW h1,h2]
theorem ZN {z:Value} (h:bD z=true):z.cells= #[z]:=by
  cases z<;>first | rfl | cases h
theorem WV (HT:TOk P C T) {t kt et:TypeId} {ti te:TI κ Ty} {k v:κ} (ht:T t=some ti) (hs:ti.shp= .map kt et k v) (hte:T et=some te) {z:AV κ Ty} (hz:te.zero=[z]):
    ∃u,(zeroValue et).run P w= .ok u w∧d2_ z=some u∧bD u=true:=by
  obtain ⟨_,_,_,_,i,u,h1,h2,h3⟩:=HT.map t ti kt et k v ht hs
  obtain ⟨i',z',g1,_,_,g4,g5,_⟩:=HT.info et te hte
  rw [h1] at g1;cases g1
  rw [h2] at g4;cases g4
  refine ⟨u,db_ h1 h2, ?_,h3⟩
  rw [ZN h3,hz] at g5
  simpa using g5.symm
theorem MX (HT:TOk P C T) (HC:bH C) (S:SRel C Mut Lent w0 ρ env objs tm w) {t kt et:TypeId} {ti te:TI κ Ty} {k v:κ} (ht:T t=some ti) (hs:ti.shp= .map kt et k v) (hte:T et=some te) {z:Value} (hz:te.zero=[.lit z])
    {m key:AV κ Ty} {um uk:Value} (hm:VRel C w Mut ρ objs m um) (hk:VRel C w Mut ρ objs key uk) {K:AV κ Ty→Option R} {r:R} (h:qG C objs (.map kt et k v) m key z K=some r):
    ∃u,K (.lit u)=some r∧(Instr.lookup t um uk false).run P w= .ok u w∧bD u=true:=by
  unfold qG at h
  obtain ⟨id,es,x,rfl,hid,rfl,hK⟩:=JC HC h
  clear h
  have h:=hK;clear hK
  have hum:=HD hid hm
  subst hum
  have hso:=S.ob id
  simp only [ORel,hid] at hso
  obtain ⟨mes,H⟩:=hso
  obtain ⟨hund,_⟩:=HT.map t ti kt et k v ht hs
  have hfk:=AP (w:=w) HT ht hs hk H
  have hck:=w6 (w:=w) HT ht hs hk
  obtain ⟨zu,hz1,hz2,hz3⟩:=WV (w:=w) HT ht hs hte hz
  cases hz2
  simp only [Instr.lookup,Sem.run_bind,run_underlying hund,Result.andThen_ok,MapKept.run_getObj_map H.at_,hck,hfk,Sem.run_pure]
  cases hf:cC (C.keq k x) es 0 with
  | none=>
    rw [hf] at h
    refine ⟨z,h, ?_,hz3⟩
    simp [hz1]
  | some p=>
    rw [hf] at h
    obtain ⟨_,a,h2,_⟩:=tY hf
    rw [Nat.sub_zero] at h2
    obtain ⟨_,me,h3,_⟩:=H.key p.1 _ h2
    have hv:=H.val p.1 _ me h2 h3 (fun o h=>by cases h)
    simp only [optK] at h
    split at h
    ·rename_i u henc
     rw [henc] at hv
     refine ⟨u,h, ?_,hv.2.1⟩
     simp [h3,hv.1]
    ·cases h
theorem MU (HT:TOk P C T) (HC:bH C) (S:SRel C Mut Lent w0 ρ env objs tm w) {t kt et:TypeId} {ti te:TI κ Ty} {k v:κ} (ht:T t=some ti) (hs:ti.shp= .map kt et k v) (hte:T et=some te) {s:κ} (hz:te.zero=[.nil s])
    {m key:AV κ Ty} {um uk:Value} (hm:VRel C w Mut ρ objs m um) (hk:VRel C w Mut ρ objs key uk) {K:AV κ Ty→aH κ Ty→Option R} {r:R} (h:rV C objs (.map kt et k v) m key s K=some r):
    ∃y objs' ρ' u,K y objs'=some r∧(Instr.lookup t um uk false).run P w= .ok u w∧SRel C Mut Lent w0 ρ' env objs' tm w∧VRel C w Mut ρ' objs' y u:=by
  unfold rV at h
  obtain ⟨ρ1,S,hrel⟩:=xO HC S (UX m)
  replace hm:=hrel _ _ hm
  replace hk:=hrel _ _ hk
  clear hrel
  generalize zU C (UX m) objs=objs at h S hm hk
  generalize ρ1=ρ at S hm hk
  dsimp only at h
  obtain ⟨id,es,x,rfl,hid,rfl,hK⟩:=JC HC h
  clear h
  have h:=hK;clear hK
  have hum:=HD hid hm
  subst hum
  have hso:=S.ob id
  simp only [ORel,hid] at hso
  obtain ⟨mes,H⟩:=hso
  obtain ⟨hund,_⟩:=HT.map t ti kt et k v ht hs
  have hfk:=AP (w:=w) HT ht hs hk H
  have hck:=w6 (w:=w) HT ht hs hk
  obtain ⟨zu,hz1,hz2,hz3⟩:=WV (w:=w) HT ht hs hte hz
  cases hz2
  simp only [Instr.lookup,Sem.run_bind,run_underlying hund,Result.andThen_ok,MapKept.run_getObj_map H.at_,hck,hfk,Sem.run_pure]
  cases hf:cC (C.keq k x) es 0 with
  | none=>
    rw [hf] at h
    refine ⟨_,_,ρ,_,h, ?_,S, .nil (A:=none)⟩
    simp [hz1]
  | some p=>
    rw [hf] at h
    obtain ⟨_,a,h2,_⟩:=tY hf
    rw [Nat.sub_zero] at h2
    obtain ⟨_,me,h3,_⟩:=H.key p.1 _ h2
    obtain ⟨y,objs',ρ',g1,g2,g3⟩:=OI S hid H h2 rfl h3 h
    refine ⟨y,objs',ρ',me.val,g1, ?_,g2,g3⟩
    simp [h3]
theorem MpRel.push {L:Loc} {k v:κ} {es:List (Ty k×Ty v)} {mes:Array MapEntry} (H:MpRel C w Mut ρ objs L k v es none mes) {x:Ty k} {y:Ty v} {key val:Value}
    (W:WStep w w' (bJ ρ objs) (bJ ρ' objs')) (hl:objs.length≤objs'.length) (hc:∀q,Compat ρ objs ρ' objs' q) (hheap:∀b,b≠L.block→w'.heap[b]? =w.heap[b]?)
    (hat:w'.heap[L.block]? =some (.map (mes.push {key:=key,val:=val,born:=mes.size}) (mes.size+1))) (hlit:∀c∈C.enc k x,∃v,c= .lit v) (hk:VRel C w Mut ρ objs (.agg (C.enc k x)) key) (hv:EntR C w' Mut ρ' objs' (0,0,0) (C.enc v y) val):
    MpRel C w' Mut ρ' objs' {L with sub:=fun q=>if q=es.length then (0,0,0) else L.sub q} k v (es++[(x,y)]) none (mes.push {key:=key,val:=val,born:=mes.size}):=by
  have hget:∀q e',(es++[(x,y)])[q]? =some e'→(q=es.length∧e'=(x,y))∨(q<es.length∧es[q]? =some e'):=fun q e' hq=>by
    by_cases e:q<es.length
    ·rw [List.getElem?_append_left e] at hq;exact .inr ⟨e,hq⟩
    ·have:=(List.getElem?_eq_some_iff.mp hq).1
     simp at this
     have e:q=es.length:=by omega
     subst e
     simp at hq;exact .inl ⟨rfl,hq.symm⟩
  have mget:∀q,q<es.length→(mes.push {key:=key,val:=val,born:=mes.size})[q]? =mes[q]? :=fun q hq=>by
    rw [Array.getElem?_push,if_neg (by rw [H.size];omega)]
  have mnew:(mes.push {key:=key,val:=val,born:=mes.size})[es.length]? =some {key:=key,val:=val,born:=mes.size}:=by
    rw [←H.size];simp
  refine ⟨by simp [H.size],by rw [hat];simp,fun q e' hq=> ?_,fun q e' me hq hm _=> ?_,fun q o me hq=>(by cases hq),fun q o hq=>(by cases hq),fun q hq _ hcap=> ?_,fun p q hp hq _ _ hcp hcq hpq=> ?_⟩
  ·rcases hget q e' hq with ⟨rfl,rfl⟩ | ⟨h1,h2⟩
   ·exact ⟨hlit,_,mnew,H.size,hk.step W hl hc⟩
   ·obtain ⟨g1,me,g2,g3,g4⟩:=H.key q e' h2
    exact ⟨g1,me,by rw [mget q h1];exact g2,g3,g4.step W hl hc⟩
  ·rcases hget q e' hq with ⟨rfl,rfl⟩ | ⟨h1,h2⟩
   ·rw [mnew] at hm;cases hm
    simp only [if_true];exact hv
   ·rw [mget q h1] at hm
    simp only [if_neg (Nat.ne_of_lt h1)]
    refine (H.val q e' me h2 hm (fun o h=>by cases h)).step W hl hc fun b hb1 hb2=>hheap b fun eb=> ?_
    exact H.own q h1 (fun o h=>by cases h) hb1 (by rw [hb2,eb])
  ·by_cases e:q=es.length
   ·simp [e] at hcap
   ·simp only [if_neg e] at hcap⊢
    simp at hq
    exact H.own q (by omega) (fun o h=>by cases h) hcap
  ·by_cases e:p=es.length
   ·simp [e] at hcp
   ·by_cases e':q=es.length
    ·simp [e'] at hcq
    ·simp only [if_neg e,if_neg e'] at hcp hcq hpq
     simp at hp hq
     exact H.disj p q (by omega) (by omega) (fun o h=>by cases h) (fun o h=>by cases h) hcp hcq hpq
theorem bf_ {r:Nat} {o:Obj} (h:w.heap[r]? =some o):({w with heap:=w.heap.setIfInBounds r o}:World)=w:=by
  have:w.heap.setIfInBounds r o=w.heap:=by
    apply Array.ext_getElem?
    intro i
    rw [Array.getElem?_setIfInBounds]
    split
    ·rename_i e;subst e
     split
     ·exact h.symm
     ·rename_i hn;rw [Array.getElem?_eq_none (by omega)]
    ·rfl
  rw [this]
theorem JG (HT:TOk P C T) (HC:bH C) (S:SRel C Mut Lent w0 ρ env objs tm w) {t kt et:TypeId} {ti te:TI κ Ty} {k v:κ} (ht:T t=some ti) (hs:ti.shp= .map kt et k v) (hte:T et=some te)
    {m key:AV κ Ty} {um uk:Value} (hm:VRel C w Mut ρ objs m um) (hk:VRel C w Mut ρ objs key uk) {K:AV κ Ty→aH κ Ty→Option R} {r:R} (h:oY C objs (.map kt et k v) m key te K=some r):
    ∃y objs' ρ' u w',K y objs'=some r∧(Instr.mapEntry t um uk).run P w= .ok u w'∧SRel C Mut Lent w0 ρ' env objs' tm w'∧VRel C w' Mut ρ' objs' y u:=by
  unfold oY at h
  obtain ⟨ρ1,S,hrel⟩:=xO HC S (UX m)
  replace hm:=hrel _ _ hm
  replace hk:=hrel _ _ hk
  clear hrel
  generalize zU C (UX m) objs=objs at h S hm hk
  generalize ρ1=ρ at S hm hk
  dsimp only at h
  obtain ⟨id,es,x,rfl,hid,rfl,hK⟩:=JC HC h
  clear h
  have h:=hK;clear hK
  have hum:=HD hid hm
  subst hum
  have hso:=S.ob id
  simp only [ORel,hid] at hso
  obtain ⟨mes,H⟩:=hso
  obtain ⟨hund,_,_,hlits,_⟩:=HT.map t ti kt et k v ht hs
  have hlit:∀c∈C.enc k x,∃v,c= .lit v:=fun c hc=>by
    rcases hlits x c hc with ⟨q,n,rfl⟩ | ⟨s,rfl⟩<;>exact ⟨_,rfl⟩
  have hfk:=AP (w:=w) HT ht hs hk H
  have hck:=w6 (w:=w) HT ht hs hk
  simp only [Instr.mapEntry,Sem.run_bind,run_underlying hund,Result.andThen_ok,MapKept.run_getObj_map H.at_,hck,hfk,Sem.run_pure]
  cases hf:cC (C.keq k x) es 0 with
  | none=>
    rw [hf] at h
    simp only [optK] at h
    split at h
    ·rename_i z y hz hdec
     obtain ⟨zu,hz1,hz2,hz3⟩:=WV (w:=w) HT ht hs hte hz
     simp only [Option.map_none,Sem.run_bind,hz1,Result.andThen_ok,MapKept.run_setObj_map _ H.at_,Sem.run_pure]
     have hset:=MapKept.heap_set (o':= .map (mes.push {key:=uk,val:=zu,born:=mes.size}) (mes.size+1)) H.at_
     have hent:∀(w':World) (ρ':Nat→Loc) (objs':aH κ Ty),EntR C w' Mut ρ' objs' (0,0,0) (C.enc v y) zu:=fun w' ρ' objs'=>by
       rw [HC.dec _ _ _ hdec,hz]
       cases z with
       | lit z0=>cases hz2;exact ⟨rfl,hz3,rfl⟩
       | nil s=>cases hz2;exact ⟨none,rfl,fun h=>absurd rfl h,Nat.le_refl _,fun h=>absurd rfl h,fun i x j cl hx=>by simp at hx,fun q hq=>(by simp at hq), .zero⟩
       | _=>simp [d2_] at hz2
     obtain ⟨S',hrel⟩:=S.mpset (w':={w with heap:=w.heap.setIfInBounds (ρ id).block (.map (mes.push {key:=uk,val:=zu,born:=mes.size}) (mes.size+1))}) hid (objs1:=objs) (.refl objs) rfl
       (es':=es++[(x,y)]) (h':=none) (sub':=fun q=>if q=es.length then (0,0,0) else (ρ id).sub q) (fun b hb=>hset.2 b hb) (by simp) rfl rfl rfl
       (fun q hq _ hcap=>by
         by_cases e:q=es.length
         ·simp [e] at hcap
         ·simp only [if_neg e] at hcap⊢
          simp at hq
          refine .inl ?_
          unfold aG;rw [hid];exact .inr ⟨q,by omega,fun o h=>(by cases h),hcap,rfl⟩)
       (fun W hl hc=>⟨_,H.push W hl hc (fun b hb=>hset.2 b hb) hset.1 hlit hk (hent _ _ _)⟩)
     refine ⟨_,_,_,_,_,h,rfl,S', ?_⟩
     refine .tup (us:=[zu,goInt mes.size]) (by simp) (fun j cl u hj hu=> ?_)
     cases j with
     | zero=>
       simp at hj hu;subst hj;subst hu
       cases z with
       | lit z0=>cases hz2;exact .lit hz3
       | nil s=>cases hz2;exact .nil
       | _=>simp [d2_] at hz2
     | succ j=>
       cases j with
       | zero=>simp at hj hu;subst hj;subst hu;rw [H.size];exact .lit rfl
       | succ j=>simp at hj
    ·cases h
  | some p=>
    rw [hf] at h
    simp only [optK] at h
    obtain ⟨_,a,h2,h2'⟩:=tY hf
    rw [Nat.sub_zero] at h2
    have hxa:=HC.keq _ _ _ h2'
    subst hxa
    obtain ⟨_,me,h3,h4,h5⟩:=H.key p.1 _ h2
    have hke:me.key=uk:=ed_ hlit h5 hk
    have hsb:Instr.sameBits 10000 uk uk=true:=PR (hlits x) hk 9999
    obtain ⟨y,objs',ρ',g1,g2,g3⟩:=OI S hid H h2 rfl h3 h
    have hmod:mes.modify p.1 (fun e=>{e with key:=uk})=mes:=by
      apply Array.ext_getElem?
      intro i
      rw [Array.getElem?_modify]
      split
      ·rename_i e;subst e;rw [h3];simp [←hke]
      ·rfl
    refine ⟨_,objs',ρ', .tuple #[me.val,goInt p.1],w,g1, ?_,g2, ?_⟩
    ·simp only [Option.map_some,h3,Option.getD_some,hke,Instr.keyThatStays,hsb,if_true,Sem.run_bind,Sem.run_pure,Result.andThen_ok,MapKept.run_setObj_map _ H.at_,hmod,h4,bf_ H.at_]
    ·refine .tup (us:=[me.val,goInt p.1]) (by simp) (fun j cl u hj hu=> ?_)
     cases j with
     | zero=>simp at hj hu;subst hj;subst hu;exact g3
     | succ j=>
       cases j with
       | zero=>simp at hj hu;subst hj;subst hu;exact .lit rfl
       | succ j=>simp at hj
theorem cZ_ {mes:Array MapEntry} (hb:∀(q:Nat) me,mes[q]? =some me→me.born=q) {n:Nat} (hn:n<mes.size):mes.findIdx? (fun e=>(e.born:Int)==(n:Int))=some n:=by
  rw [Array.findIdx?_eq_some_iff_getElem]
  refine ⟨hn, ?_,fun j hj=> ?_⟩
  ·rw [hb n _ (Array.getElem?_eq_getElem hn)];simp
  ·rw [hb j _ (Array.getElem?_eq_getElem (by omega))];simp;omega
theorem SRel.mpstore (S:SRel C Mut Lent w0 ρ env objs tm w) {id:Nat} {k v:κ} {es:List (Ty k×Ty v)} {h:Option (Nat×Option Nat)} (hid:objs[id]? =some (.mp k v es h)) {mes:Array MapEntry} (H:MpRel C w Mut ρ objs (ρ id) k v es h mes)
    {n:Nat} {e:Ty k×Ty v} (he:es[n]? =some e) (hh:∀i o,h=some (i,o)→i=n) {y:Ty v} {u:Value} {L':Nat×Nat×Nat} (hw:Weaker objs objs1) (hid1:objs1[id]? =objs[id]?)
    (hfoot:L'.2.2≠0→∃j,objs1[j]? =some .dead∧j≠id∧aG ρ objs j L'.1)
    (hv:∀(w':World) (ρ':Nat→Loc) (objs':aH κ Ty),WStep w w' (bJ ρ objs) (bJ ρ' objs')→objs.length≤objs'.length→(∀q,Compat ρ objs ρ' objs' q)→(∀b,b≠(ρ id).block→w'.heap[b]? =w.heap[b]?)→EntR C w' Mut ρ' objs' L' (C.enc v y) u):
    ∃ρ',SRel C Mut Lent w0 ρ' env (objs1.set id (.mp k v (es.set n (e.1,y)) none)) tm {w with heap:=w.heap.setIfInBounds (ρ id).block (.map (mes.modify n fun e=>{e with val:=u}) mes.size)}:=by
  have hset:=MapKept.heap_set (o':= .map (mes.modify n fun e=>{e with val:=u}) mes.size) H.at_
  have hfi:∀q,q<es.length→(∀o,h≠some (q,o))→((ρ id).sub q).2.2≠0→aG ρ objs id ((ρ id).sub q).1:=fun q h1 h2 h3=>by
    unfold aG;rw [hid];exact .inr ⟨q,h1,h2,h3,rfl⟩
  have hfb:aG ρ objs id (ρ id).block:=by unfold aG;rw [hid];exact .inl rfl
  refine ⟨_,(S.mpset (w':={w with heap:=w.heap.setIfInBounds (ρ id).block (.map (mes.modify n fun e=>{e with val:=u}) mes.size)}) hid hw hid1 (es':=es.set n (e.1,y)) (h':=none) (sub':=fun q=>if q=n then L' else (ρ id).sub q)
    (fun b hb=>hset.2 b hb) (by simp) rfl rfl rfl (fun q hq _ hcap=> ?_) (fun W hl hc=>⟨_,H.put (mes':=mes.modify n fun e=>{e with val:=u}) he hh (val:=u) W hl hc (fun b hb=>hset.2 b hb) (by rw [hset.1];simp) (by simp) (fun q hq=> ?_) (fun me hme=> ?_) (hv _ _ _ W hl hc (fun b hb=>hset.2 b hb)) (fun q hq hqn hn hcq hcj eb=> ?_) (fun hcj eb=> ?_)⟩)).1⟩
  ·by_cases e1:q=n
   ·subst e1
    simp only [if_true] at hcap⊢
    obtain ⟨j,j1,_,j3⟩:=hfoot hcap
    exact .inr ⟨j,j1,j3⟩
   ·simp only [if_neg e1] at hcap⊢
    simp only [List.length_set] at hq
    exact .inl (hfi q hq (fun o ho=>e1 (hh _ _ ho)) hcap)
  ·rw [Array.getElem?_modify,if_neg (Ne.symm hq)]
  ·exact ⟨{me with val:=u},by rw [Array.getElem?_modify,if_pos rfl,hme];rfl,rfl,rfl,rfl⟩
  ·obtain ⟨j,_,j2,j3⟩:=hfoot hcj
   have h1:=hfi q hq hn hcq
   rw [eb] at h1
   exact j2 (S.inj _ _ _ j3 h1)
  ·obtain ⟨j,_,j2,j3⟩:=hfoot hcj
   rw [eb] at j3
   exact j2 (S.inj _ _ _ j3 hfb)
theorem EP (HT:TOk P C T) (HC:bH C) (S:SRel C Mut Lent w0 ρ env objs tm w) {t kt et:TypeId} {ti:TI κ Ty} {k v:κ} (ht:T t=some ti) (hs:ti.shp= .map kt et k v)
    {m stamp x:AV κ Ty} {um us ux:Value} (hm:VRel C w Mut ρ objs m um) (hst:VRel C w Mut ρ objs stamp us) (hx:VRel C w Mut ρ objs x ux) {K:aH κ Ty→Option R} {r:R} (h:iI C objs ti.shp m stamp x K=some r):
    ∃objs' ρ' w',K objs'=some r∧(Instr.entryStore t um us ux).run P w= .ok () w'∧SRel C Mut Lent w0 ρ' env objs' tm w':=by
  unfold iI at h
  split at h
  ·rename_i kt' et' k0 v0 id kk n hsh
   split at h
   ·rename_i k' v' es hh hid
    split at h
    ·rename_i hsame
     have hum:=HD hid hm
     subst hum
     obtain ⟨rfl,_⟩:=a7 hst
     have hso:=S.ob id
     simp only [ORel,hid] at hso
     obtain ⟨mes,H⟩:=hso
     have key:∀{e:Ty k'×Ty v'},idx es n=some e→(∀i o,hh=some (i,o)→i=n.toNat)→LZ C objs v' x (fun y objs=>K (objs.set id (.mp k' v' (es.set n.toNat (e.1,y)) none)))=some r→
      ∃objs' ρ' w',K objs'=some r∧(Instr.entryStore t (.map (some (ρ id).block)) (.int kk n) ux).run P w= .ok () w'∧SRel C Mut Lent w0 ρ' env objs' tm w':=by
       intro e he hho hput
       clear h
       have h:=hput
       clear hput
       have hn0:0≤n:=by
         unfold idx at he;split at he
         ·cases he
         ·omega
       have he':es[n.toNat]? =some e:=by
         unfold idx at he;rw [if_neg (by omega)] at he;exact he
       have hlt:n.toNat<mes.size:=by rw [H.size];exact (List.getElem?_eq_some_iff.mp he').1
       have hrun:(Instr.entryStore t (.map (some (ρ id).block)) (.int kk n) ux).run P w= .ok () {w with heap:=w.heap.setIfInBounds (ρ id).block (.map (mes.modify n.toNat fun e=>{e with val:=ux}) mes.size)}:=by
         have hfb:=cZ_ (mes:=mes) (fun q me hq=>by
           have hql:q<es.length:=by rw [←H.size];exact (Array.getElem?_eq_some_iff.mp hq).1
           obtain ⟨_,me',g1,g2,_⟩:=H.key q _ (List.getElem?_eq_getElem hql)
           rw [hq] at g1;cases g1;exact g2) hlt
         rw [show ((n.toNat:Nat):Int)=n by omega] at hfb
         simp only [Instr.entryStore,Sem.run_bind,MapKept.run_getObj_map H.at_,Result.andThen_ok,asInt,asIntOf,Sem.run_pure,hfb,MapKept.run_setObj_map _ H.at_]
       unfold LZ at h
       split at h
       ·rename_i u0
        split at h
        ·rename_i y hdec
         obtain ⟨rfl,hcell⟩:=a7 hx
         obtain ⟨ρ',S'⟩:=S.mpstore hid H he' hho (y:=y) (u:=ux) (L':=(0,0,0)) (.refl objs) rfl (fun h=>absurd rfl h) (fun w' ρ' objs' _ _ _ _=>by
           rw [HC.dec _ _ _ hdec];exact ⟨rfl,hcell,rfl⟩)
         exact ⟨_,ρ',_,h,hrun,S'⟩
        ·cases h
       ·rename_i j
        split at h
        ·rename_i s xs hsl
         split at h
         ·rename_i y hdec
          have hsl':=cB hsl
          have hji:j≠id:=fun e=>by rw [e,hid] at hsl';cases hsl'
          have hjl:=(List.getElem?_eq_some_iff.mp hsl').1
          have hjo:=S.ob j
          simp only [ORel,hsl'] at hjo
          have hjo:SlAt C w Mut ρ objs (ρ j).block (ρ j).off (ρ j).cap s xs:=hjo
          obtain ⟨A,h1,h2⟩:=Q6 hsl' hx
          obtain ⟨ρ',S'⟩:=S.mpstore hid H he' hho (y:=y) (u:=ux) (L':=((ρ j).block,(ρ j).off,(ρ j).cap)) (.kill objs j) (List.getElem?_set_ne hji) (fun hc=>⟨j,by simp [hjl],hji,dA hsl' hc⟩) (fun w' ρ' objs' W hl hc hheap=>by
            rw [HC.dec _ _ _ hdec]
            refine ⟨A,h1,h2,hjo.step W hl hc fun hcap=>hheap _ fun e=> ?_⟩
            have hf:=dA hsl' hcap
            dsimp only at e
            rw [e] at hf
            exact hji (S.inj _ _ _ hf (by unfold aG;rw [hid];exact .inl rfl)))
          exact ⟨_,ρ',_,h,hrun,S'⟩
         ·cases h
        ·cases h
       ·cases h
     split at h
     ·obtain ⟨e,he,h⟩:=bind_some h
      exact key he (fun i o ho=>by cases ho) h
     ·rename_i i o
      split at h
      ·rename_i hb
       obtain ⟨e,he,h⟩:=bind_some h
       exact key he (fun i' o' ho=>by cases ho;exact Nat.eq_of_beq_eq_true hb) h
      ·cases h
    ·cases h
   ·cases h
  ·cases h
end
end Km
namespace Km
open Go
variable {κ:Type} {Ty:κ→Type} {R:Type}
section
variable {P:Program} {C:Cod κ Ty} {T:TypeId→Option (TI κ Ty)} {Γ:FuncId→Option (bU κ Ty)}
variable {Mut:Nat→Prop} {Lent:Org κ Ty} {w0 w w':World} {ρ ρ' ρ2:Nat→Loc} {env:Env κ Ty} {objs objs' objs2:aH κ Ty} {a:Act}
variable {next:Act→World→Prop} {Q:Exit→Act→World→Prop} {o:Oper}
structure GOk (P:Program) (C:Cod κ Ty):Prop where
  cell:∀g,bD (C.gl g)=true
  ld:∀(w:World) t g x,C.gp w→C.gv t g=some x→(Instr.loadAt t (.pointer (some ⟨g,0,none⟩))).run P w= .ok (C.gl x) w
  lk:∀(w:World) t g es s,C.gp w→C.gm t g=some es→(Instr.lookup t (C.gl g) (.string s) true).run P w=
   .ok (match jP s es with | none=> .tuple #[.agg #[.int .i64 0, .int .i64 0], .bool false] | some p=> .tuple #[.agg #[.int .i64 p.1, .int .i64 p.2], .bool true]) w
theorem GOk.none {P:Program} {C:Cod κ Ty} (h0:∀g,bD (C.gl g)=true) (h1:C.gv=fun _ _=> .none) (h2:C.gm=fun _ _=> .none):GOk P C:=
  ⟨h0,fun w t g v _ h=>(by rw [h1] at h;cases h),fun w t b es s _ h=>(by rw [h2] at h;cases h)⟩
theorem ce_ {u:Value} {g:Nat} (h:hr_ u=some g):u= .pointer (some ⟨g,0,none⟩):=by
  unfold hr_ at h
  split at h
  ·split at h
   ·split at h
    ·cases h;rfl
    ·cases h
   ·cases h
  ·cases h
theorem QP [G:GlobOk C Mut Lent w0] (HG:GOk P C) (HT:TOk P C T) (HC:bH C) (S:SRel C Mut Lent w0 ρ env objs a.tmps w) {t:TypeId} {x:AV κ Ty} {u:Value} (hx:VRel C w Mut ρ objs x u)
    {K:AV κ Ty→Option R} {r:R} (h:BQ C T objs t x K=some r):∃v u',K v=some r∧(Instr.loadAt t u).run P w= .ok u' w∧VRel C w Mut ρ objs v u':=by
  unfold BQ at h
  split at h
  ·split at h
   ·rename_i g hg
    split at h
    ·rename_i y hy
     obtain ⟨rfl,_⟩:=a7 hx
     have:=ce_ hg
     subst this
     exact ⟨_,_,h,HG.ld w t g y (GlobOk.now HC S) hy, .gl (HG.cell y) rfl⟩
    ·cases h
   ·cases h
  ·split at h
   ·rename_i ti ht
    exact LH HT HC S ht hx h
   ·cases h
theorem a1_ (x y:Int) (b:Bool):VRel C w Mut ρ objs (.tup [.agg [.lit (.int .i64 x), .lit (.int .i64 y)], .lit (.bool b)]) (.tuple #[.agg #[.int .i64 x, .int .i64 y], .bool b]):=by
  refine VRel.tup (us:=[.agg #[.int .i64 x, .int .i64 y], .bool b]) rfl fun j cl u hc hu=> ?_
  match j with
  | 0=>
    simp only [List.getElem?_cons_zero,Option.some.injEq] at hc hu
    subst hc;subst hu
    refine VRel.agg (us:=[.int .i64 x, .int .i64 y]) rfl (fun j u hu=> ?_) fun j cl u hc hu=> ?_
    ·match j with
     | 0=>simp only [List.getElem?_cons_zero,Option.some.injEq] at hu;subst hu;rfl
     | 1=>simp only [List.getElem?_cons_succ,List.getElem?_cons_zero,Option.some.injEq] at hu;subst hu;rfl
     | j+2=>simp at hu
    ·match j with
     | 0=>simp only [List.getElem?_cons_zero,Option.some.injEq] at hc hu;subst hc;subst hu;exact .lit rfl
     | 1=>simp only [List.getElem?_cons_succ,List.getElem?_cons_zero,Option.some.injEq] at hc hu;subst hc;subst hu;exact .lit rfl
     | j+2=>simp at hu
  | 1=>simp only [List.getElem?_cons_succ,List.getElem?_cons_zero,Option.some.injEq] at hc hu;subst hc;subst hu;exact .lit rfl
  | j+2=>simp at hu
theorem T8 [G:GlobOk C Mut Lent w0] (HG:GOk P C) (HC:bH C) (S:SRel C Mut Lent w0 ρ env objs a.tmps w) {t:TypeId} {m key:AV κ Ty} {um uk:Value} (hm:VRel C w Mut ρ objs m um) (hk:VRel C w Mut ρ objs key uk)
    {K:AV κ Ty→Option R} {r:R} (h:M8 C t m key K=some r):∃v u',K v=some r∧(Instr.lookup t um uk true).run P w= .ok u' w∧VRel C w Mut ρ objs v u':=by
  unfold M8 at h
  split at h
  ·rename_i g
   split at h
   ·rename_i es hes
    split at h
    ·split at h
     ·rename_i s
      cases hm with
      | gl _ e=>
      subst e
      obtain ⟨rfl,_⟩:=a7 hk
      have h2:=HG.lk w t g es s (GlobOk.now HC S) hes
      cases hf:jP s es with
      | none=>
        rw [hf] at h h2
        exact ⟨_,_,h,h2,a1_ _ _ _⟩
      | some p=>
        rw [hf] at h h2
        exact ⟨_,_,h,h2,a1_ _ _ _⟩
     ·cases h
    ·cases h
   ·cases h
  ·cases h
structure Known (P:Program) (C:Cod κ Ty) (T:TypeId→Option (TI κ Ty)) (Γ:FuncId→Option (bU κ Ty)):Prop where
  ty:TOk P C T
  el:EOk P C T
  cod:bH C
  fn:∀f S,Γ f=some S→SummOk P C f S
  gok:GOk P C
theorem QN (HT:TOk P C T) (S:SRel C Mut Lent w0 ρ env objs a.tmps w):∀(xs:List Operand) (ts:List TypeId),xs.length=ts.length→(xs.map a.eval).length=(jQ T env xs ts).length∧
    ∀(j:Nat) (x:AV κ Ty) (u:Value),(jQ T env xs ts)[j]? =some x→(xs.map a.eval)[j]? =some u→VRel C w Mut ρ objs x u
  | [],[],_=>⟨rfl,fun j x u h=>by simp [jQ] at h⟩
  | [],_::_,h=>by simp at h
  | _::_,[],h=>by simp at h
  | x::xs,t::ts,h=>by
    obtain ⟨h1,h2⟩:=QN HT S xs ts (by simpa using h)
    refine ⟨by simp [jQ] at h1⊢;exact h1,fun j y u hj hu=> ?_⟩
    cases j with
    | zero=>simp [jQ] at hj hu;subst hj;subst hu;exact aX HT S t x
    | succ j=>exact h2 j y u (by simpa [jQ] using hj) (by simpa using hu)
theorem ci_ (HC:bH C) (S:SRel C Mut Lent w0 ρ env objs a.tmps w) {x:AV κ Ty} {u:Value} {t:κ} {xs:List (Ty t)} (hx:VRel C w Mut ρ objs x u) (h:JQ objs x=some ⟨t,xs⟩):∃A c,u= .slice A xs.length c:=by
  unfold JQ at h
  split at h
  ·split at h
   ·rename_i e
    cases h
    cases hx with
    | rwv h1 hA=>rw [cO e] at h1;cases h1;exact ⟨_,_,rfl⟩
    | rwvd hcl hin h1=>rw [jM (cO e)] at h1;cases h1
   ·cases h
  ·split at h
   ·rename_i e
    split at h
    ·rename_i hg
     cases h
     have hg:=Nat.eq_of_beq_eq_true hg
     cases hx with
     | xr hcl e' hgg hv=>
       rw [e] at e';cases e'
       obtain ⟨b,x,A,k1,k2,rfl,k4⟩:=hv hg rfl
       exact ⟨_,_,rfl⟩
     | xrd hcl hin h1=>rw [jM (cO e)] at h1;cases h1
    ·cases h
   ·cases h
  ·obtain ⟨A,c,blk,off,e,_⟩:=tN HC S hx h
   exact ⟨A,c,e⟩
theorem UV (HT:TOk P C T) (HC:bH C) (S:SRel C Mut Lent w0 ρ env objs a.tmps w) {t ty:TypeId} {ti:TI κ Ty} (ht:T t=some ti) {x:AV κ Ty} {u:Value} {n:Int} (hx:VRel C w Mut ρ objs x u) (h:lenOf objs ti.shp x=some n):
    (Builtin.len_ #[t] ty #[u]).run P w= .ok (.int .i64 n) w:=by
  unfold lenOf at h
  split at h
  ·rename_i hs
   have hu:=HT.str t ti ht hs
   split at h
   ·obtain ⟨rfl,_⟩:=a7 hx
    cases h
    simp only [Builtin.len_,List.getElem?_toArray,List.getElem?_cons_zero,Sem.run_bind,run_underlying hu,Result.andThen_ok]
    rfl
   ·cases h
  ·rename_i e s hs
   obtain ⟨hu,_⟩:=HT.slice t ti e s ht hs
   split at h
   ·rename_i id
    split at h
    ·rename_i t' xs hr
     cases hx with
     | rwv h1 hA=>
       rw [hr] at h1;cases h1
       cases h
       simp only [Builtin.len_,List.getElem?_toArray,List.getElem?_cons_zero,Sem.run_bind,run_underlying hu,Result.andThen_ok]
       rfl
     | rwvd hcl hin h1=>rw [jM hr] at h1;cases h1
    ·cases h
   ·split at h
    ·rename_i t' xs hr
     obtain ⟨A,c,rfl⟩:=ci_ HC S hx hr
     cases h
     simp only [Builtin.len_,List.getElem?_toArray,List.getElem?_cons_zero,Sem.run_bind,run_underlying hu,Result.andThen_ok]
     rfl
    ·cases h
  ·cases h
theorem bj_ (HT:TOk P C T) (S:SRel C Mut Lent w0 ρ env objs a.tmps w) {x:Option Operand} {b:Option Int}
    (h:(match x with | none=>some none | some l=>(match iV T env 0 l with | .lit (.int _ n)=>some (some n) | _=>none):Option (Option Int))=some b):ei_ b (x.map a.eval):=by
  cases x with
  | none=>cases h;exact .none
  | some y=>
    simp only at h
    split at h
    ·rename_i k n he
     cases h
     have:=aX HT S 0 y
     rw [he] at this
     obtain ⟨hu,_⟩:=a7 this
     simp only [Option.map_some,hu]
     exact .some k n
    ·cases h
theorem bY {u:Value} {x:Sem Value} (hx:execOp a.eval o=(do pure (.value (←x)))) (h:x.run P w= .ok u w'):(execOp a.eval o).run P w= .ok (.value u) w':=by
  rw [hx];simp [h]
theorem QX {x:Sem Unit} (hx:execOp a.eval o=(do x;pure .skip)) (h:x.run P w= .ok () w'):(execOp a.eval o).run P w= .ok .skip w':=by
  rw [hx];simp [h]
theorem SN [GlobOk C Mut Lent w0] (H:Known P C T Γ) (S:SRel C Mut Lent w0 ρ env objs a.tmps w) {K:AV κ Ty→aH κ Ty→Option R} {r:R} (h:aop C T Γ o env objs K=some r)
    (hn:∀v objs' ρ' u w',K v objs'=some r→SRel C Mut Lent w0 ρ' env objs' a.tmps w'→VRel C w' Mut ρ' objs' v u→next (a.put o.dst u) w'):o.wp P a w next Q:=by
  unfold aop at h
  split at h
  ·rename_i x ho
   exact bG (by simp only [execOp,ho];rfl) (hn _ _ ρ _ w h S (aX H.ty S _ x))
  ·rename_i x ho
   exact bG (by simp only [execOp,ho];rfl) (hn _ _ ρ _ w h S (aX H.ty S _ x))
  ·rename_i c x y ho
   split at h
   ·rename_i t hc
    have h:=BJ h
    have hcu:=aX H.ty S 0 c
    rw [hc] at hcu
    obtain ⟨hcu,_⟩:=a7 hcu
    refine bG (u:=if t=true then a.eval x else a.eval y) (w':=w) ?_ (hn _ _ ρ _ w h S ?_)
    ·simp only [execOp,ho,hcu,asBool];rfl
    ·cases t
     ·exact aX H.ty S _ y
     ·exact aX H.ty S _ x
   ·cases h
  ·rename_i t ho
   split at h
   ·rename_i ti ht
    split at h
    ·rename_i n e s hs
     split at h
     ·split at h
      ·cases h
      rename_i hbs
      obtain ⟨u',w',ρ',g1,g2,g3⟩:=tE (P:=P) H.ty S ht (fun e=>by rw [e] at hbs;cases hbs)
      exact bG (bY (by simp only [execOp,ho]) g1) (hn _ _ ρ' _ w' h g2 g3)
     ·split at h
      ·rename_i te hte hle
       split at h
       ·rename_i z hz
        obtain ⟨u',w',ρ',g1,g2,g3⟩:=M0 (P:=P) H.ty H.cod S ht hs hte (Nat.le_of_ble_eq_true hle) hz
        exact bG (bY (by simp only [execOp,ho]) g1) (hn _ _ ρ' _ w' h g2 g3)
       ·cases h
      ·cases h
    ·split at h
     ·split at h
      ·rename_i hbt
       obtain ⟨u',w',ρ',g1,g2,g3⟩:=tE (P:=P) H.ty S ht (fun _=>by simp only [Bool.and_eq_true] at hbt;exact ⟨Nat.eq_of_beq_eq_true hbt.1,hbt.2⟩)
       exact bG (bY (by simp only [execOp,ho]) g1) (hn _ _ ρ' _ w' h g2 g3)
      ·cases h
     ·rename_i hbs
      obtain ⟨u',w',ρ',g1,g2,g3⟩:=tE (P:=P) H.ty S ht (fun e=>by rw [e] at hbs;cases hbs)
      exact bG (bY (by simp only [execOp,ho]) g1) (hn _ _ ρ' _ w' h g2 g3)
   ·cases h
  ·rename_i t x ho
   split at h
   ·rename_i cs hc
    have hx:=aX H.ty S t x
    have hcs:=oP hc hx
    split at h
    ·cases h
    rename_i hbs
    refine bG (u:= .pointer (some (at' w.heap.size 0))) (w':=w.alloc (.cells (a.eval x).cells t)) ?_ (hn _ _ _ _ _ h (S.newBox t (fun e=>by rw [e] at hbs;cases hbs) (fun e=>by rw [W8 e] at hbs;cases hbs) hcs) ?_)
    ·simp only [execOp,ho]
     simp [Instr.box,newVar,newRow,World.alloc_eq,at']
    ·have:=VRel.ref (C:=C) (w:=w.alloc (.cells (a.eval x).cells t)) (Mut:=Mut) (ρ:=upd ρ objs.length ⟨w.heap.size,0,0,noSub⟩) (off:=0) (bW objs (.box cs))
     rw [aV] at this
     exact this
   ·cases h
  ·rename_i t ps ho
   split at h
   ·rename_i ti ht
    split at h
    ·rename_i fs hs
     split at h
     ·rename_i cs hf
      obtain ⟨us,g1,g2⟩:=UK (P:=P) H.ty ht hs (uX H.ty S _ ps.toList) hf
      refine bG (bY (x:=Instr.build t (ps.map fun (i,x)=>(i,a.eval x))) (by simp only [execOp,ho]) ?_) (hn _ _ ρ _ w h S g2.agg)
      rw [←g1];congr 2
      apply Array.ext';simp
     ·cases h
    ·cases h
   ·cases h
  ·rename_i t n ps ho
   split at h
   ·rename_i ti ht
    split at h
    ·rename_i e s hs
     split at h
     ·rename_i hb
      simp only [Bool.and_eq_true] at hb
      split at h
      ·rename_i hnil
       obtain ⟨hu,ie,i1,i2,i3⟩:=H.ty.slice t ti e s ht hs
       have hn0:n=0:=by have:=Nat.eq_of_beq_eq_true hb.1;rw [hnil] at this;simpa using this.symm
       subst hn0
       have hps:ps= #[]:=by apply Array.ext';exact hnil
       subst hps
       refine bG (bY (x:=Instr.buildSlice t 0 ((#[]:Array (Nat×Operand)).map fun (i,x)=>(i,a.eval x))) (by simp only [execOp,ho]) (u:= .slice (some (at' w.heap.size 0)) 0 0) (w':=w.alloc (.cells #[] e)) ?_) ?_
       ·simp only [Instr.buildSlice,Sem.run_bind,run_underlying hu,Result.andThen_ok,rP i1,i2]
        have e0:Array.range 0= #[]:=rfl
        simp [Instr.fill,newRow,World.alloc_eq,at',e0]
       ·have W:WStep w (w.alloc (.cells #[] e)) (bJ ρ objs) (bJ ρ objs):=⟨fun b hb _=>cT w _ hb,by simp,fun b h=> .inl h⟩
        exact hn _ _ ρ _ _ h (S.step W (Nat.le_refl _) (fun id=> .refl id) (fun id=>ORel.step W (Nat.le_refl _) (fun id=> .refl id) (S.ob id) rfl rfl (fun b hb=>cT w _ (S.flt hb))) (fun i j b hi hj=>S.inj i j b hi hj) rfl rfl rfl) .nil
      have hpl:∀(ps:List (Nat×Operand)) (ty:Nat→TypeId),(kX T env ty ps).length=ps.length:=fun ps ty=>by
        induction ps with
        | nil=>rfl
        | cons p ps ih=>obtain ⟨i,x⟩:=p;simp [kX,ih]
      split at h
      ·split at h
       ·rename_i ys hys
        obtain ⟨u',w',g2,g3,g4⟩:=EB (P:=P) H.ty H.el H.cod S ht hs (n:=n) (uX H.ty S (fun _=>e) ps.toList) (by rw [hpl];exact Nat.eq_of_beq_eq_true hb.1) (Nat.le_of_ble_eq_true hb.2) hys
        refine bG (bY (x:=Instr.buildSlice t n (ps.map fun (i,x)=>(i,a.eval x))) (by simp only [execOp,ho]) ?_) (hn _ _ ρ _ w' h g3 g4)
        rw [←g2];congr 2
        apply Array.ext';simp
       ·cases h
      obtain ⟨ys,objs1,u',w',ρ',g1,g2,g3,g4⟩:=GI (P:=P) H.ty H.el H.cod S ht hs (n:=n) (uX H.ty S (fun _=>e) ps.toList) (by rw [hpl];exact Nat.eq_of_beq_eq_true hb.1) (Nat.le_of_ble_eq_true hb.2) h
      refine bG (bY (x:=Instr.buildSlice t n (ps.map fun (i,x)=>(i,a.eval x))) (by simp only [execOp,ho]) ?_) (hn _ _ ρ' _ w' g1 g3 g4)
      rw [←g2];congr 2
      apply Array.ext';simp
     ·cases h
    ·cases h
   ·cases h
  ·rename_i t x ho
   obtain ⟨v,u',g1,g2,g3⟩:=QP (P:=P) H.gok H.ty H.cod S (aX H.ty S 0 x) h
   exact bG (bY (by simp only [execOp,ho]) g2) (hn _ _ ρ _ w g1 S g3)
  ·rename_i t x y ho
   split at h
   ·rename_i ti ht
    obtain ⟨objs',ρ',w',g1,g2,g3⟩:=TF (P:=P) H.ty H.cod S ht (aX H.ty S 0 x) (aX H.ty S t y) h
    exact YS (QX (by simp only [execOp,ho]) g2) (hn _ _ ρ' _ w' g1 g3 .undef)
   ·cases h
  ·rename_i x ho
   split at h
   ·rename_i ha
    have hx:=aX H.ty S o.type x
    obtain ⟨b,k,hu⟩:=FP ha hx
    exact bG (by simp only [execOp,ho,hu];rfl) (hn _ _ ρ _ w h S (hu▸hx))
   ·cases h
  ·rename_i op t x y ty ho
   split at h
   ·rename_i ti ht
    split at h
    ·rename_i hag
     split at h
     ·rename_i b hb
      obtain ⟨q1,q2⟩:=Z3 (P:=P) H.ty ht hag x y (aX H.ty S t x) (aX H.ty S t y) hb
      split at h
      ·exact bG (bY (x:=do eqGuard .eql t x y (a.eval x) (a.eval y);binOp .eql t (a.eval x) (a.eval y)) (by simp only [execOp,ho]) q1) (hn _ _ ρ _ w h S (.lit rfl))
      ·exact bG (bY (x:=do eqGuard .neq t x y (a.eval x) (a.eval y);binOp .neq t (a.eval x) (a.eval y)) (by simp only [execOp,ho]) q2) (hn _ _ ρ _ w h S (.lit rfl))
      ·cases h
     ·cases h
    ·obtain ⟨v,u,g1,g2,g3⟩:=ad_ (P:=P) H.ty ht x y (aX H.ty S t x) (aX H.ty S t y) h
     exact bG (bY (x:=do eqGuard op t x y (a.eval x) (a.eval y);binOp op t (a.eval x) (a.eval y)) (by simp only [execOp,ho]) g2) (hn _ _ ρ _ w g1 S g3)
   ·cases h
  ·rename_i op t x ho
   split at h
   ·split at h
    ·rename_i b hb
     have hx:=aX H.ty S o.type x
     rw [hb] at hx
     obtain ⟨hu,_⟩:=a7 hx
     exact bG (bY (x:=Op.unary .not (a.eval x)) (by simp only [execOp,ho]) (by rw [hu];rfl)) (hn _ _ ρ _ w h S (.lit rfl))
    ·cases h
   ·cases h
  ·rename_i s d x ho
   split at h
   ·rename_i ti td hti htd
    split at h
    ·rename_i k k' n hk hx0
     split at h
     ·rename_i k2 hk2
      have hx:=aX H.ty S o.type x
      rw [hx0] at hx
      obtain ⟨hu,_⟩:=a7 hx
      have u1:=H.ty.int s ti _ hti hk2
      have u2:=H.ty.int d td _ htd hk
      refine bG (bY (x:=convert s d (a.eval x)) (by simp only [execOp,ho]) (u:= .int k (k.wrap n)) ?_) (hn _ _ ρ _ w h S (.lit rfl))
      rw [hu]
      simp [convert,run_underlying u1,run_underlying u2,Conv.intToInt]
     ·cases h
    ·rename_i hk
     split at h
     ·rename_i e s' hs
      split at h
      ·rename_i te t xs hte hrows
       split at h
       ·rename_i k hk2
        split at h
        ·split at h
         ·rename_i bs hbs
          have hx:=aX H.ty S o.type x
          obtain ⟨A,n,c,hu,hrun⟩:=ZX (P:=P) H.cod S hx hrows hbs
          have u1:=(H.ty.slice s ti e s' hti hs).1
          have u2:=H.ty.int e te _ hte hk2
          have u3:=H.ty.str d td htd hk
          refine bG (bY (x:=convert s d (a.eval x)) (by simp only [execOp,ho]) (u:= .string (mD bs)) ?_) (hn _ _ ρ _ w h S (.lit rfl))
          rw [hu] at hrun⊢
          rw [run_convert_bytes_string w s d e A n c u1 u2 u3]
          exact hrun
         ·cases h
        ·cases h
       ·cases h
      ·cases h
     ·cases h
    ·rename_i e s' b hs hx0
     split at h
     ·rename_i te hts hte
      split at h
      ·rename_i k hk2
       split at h
       ·split at h
        ·rename_i ys hys
         have hx:=aX H.ty S o.type x
         rw [hx0] at hx
         obtain ⟨hu,_⟩:=a7 hx
         obtain ⟨u',w',ρ',g1,g2,g3⟩:=L4 (P:=P) H.ty H.cod S hti hts htd hs hte hk2 hys
         exact bG (bY (x:=convert s d (a.eval x)) (by simp only [execOp,ho]) (by rw [hu];exact g1)) (hn _ _ ρ' _ w' h g2 g3)
        ·cases h
       ·cases h
      ·cases h
     ·cases h
    ·cases h
   ·cases h
  ·rename_i t n c ho
   split at h
   ·rename_i ti ht
    split at h
    ·rename_i e s hs
     split at h
     ·rename_i te hte
      split at h
      ·rename_i k p k' q hp hq
       replace h:=bind_some h
       obtain ⟨m,hm,h⟩:=h
       split at hm
       ·rename_i he
        subst he
        split at h
        ·rename_i z hz
         split at h
         case h_2=>cases h
         rename_i hall
         have h1:=aX H.ty S 0 n
         have h2:=aX H.ty S 0 c
         rw [hp] at h1
         rw [hq] at h2
         obtain ⟨e1,_⟩:=a7 h1
         obtain ⟨e2,_⟩:=a7 h2
         obtain ⟨ms1,ms2⟩:=KU (P:=P) (k:=k) (k':=k') H.ty H.el H.cod S ht hs hte hm hz hall
         split at h
         ·rename_i hxc
          simp only [Bool.and_eq_true] at hxc
          obtain ⟨u',w',ρ',g1,g2,g3⟩:=ms2 hxc.1 hxc.2
          exact bG (bY (x:=Instr.makeSlice t (a.eval n) (a.eval c)) (by simp only [execOp,ho]) (by rw [e1,e2];exact g1)) (hn _ _ ρ' _ w' h g2 g3)
         ·obtain ⟨u',w',ρ',g1,g2,g3⟩:=ms1
          exact bG (bY (x:=Instr.makeSlice t (a.eval n) (a.eval c)) (by simp only [execOp,ho]) (by rw [e1,e2];exact g1)) (hn _ _ ρ' _ w' h g2 g3)
        ·cases h
       ·cases hm
      ·cases h
     ·cases h
    ·cases h
   ·cases h
  ·rename_i t r' ho
   split at h
   ·split at h
    ·rename_i ti ht
     split at h
     ·rename_i kt et k v hs
      obtain ⟨u',w',ρ',g1,g2,g3⟩:=PS (P:=P) S t k v
      exact bG (bY (x:=Instr.makeMap t none) (by simp only [execOp,ho];rfl) g1) (hn _ _ ρ' _ w' h g2 g3)
     ·cases h
    ·cases h
   ·cases h
  ·rename_i t m x ok ho
   split at h
   ·obtain ⟨v,u',g1,g2,g3⟩:=T8 (P:=P) H.gok H.cod S (aX H.ty S 0 m) (aX H.ty S 0 x) h
    exact bG (bY (by simp only [execOp,ho]) g2) (hn _ _ ρ _ w g1 S g3)
   ·split at h
    ·rename_i ti ht
     split at h
     ·rename_i kt et k v hs
      split at h
      ·rename_i te hte
       split at h
       ·rename_i z hz
        rw [hs] at h
        obtain ⟨u',g1,g2,g3⟩:=MX (P:=P) H.ty H.cod S ht hs hte hz (aX H.ty S 0 m) (aX H.ty S kt x) h
        exact bG (bY (by simp only [execOp,ho]) g2) (hn _ _ ρ _ w g1 S (.lit g3))
       ·rename_i s hz
        rw [hs] at h
        obtain ⟨y,objs',ρ',u',g1,g2,g3,g4⟩:=MU (P:=P) H.ty H.cod S ht hs hte hz (aX H.ty S 0 m) (aX H.ty S kt x) h
        exact bG (bY (by simp only [execOp,ho]) g2) (hn _ _ ρ' _ w g1 g3 g4)
       ·cases h
      ·cases h
     ·cases h
    ·cases h
  ·rename_i t m x ho
   split at h
   ·rename_i ti ht
    split at h
    ·rename_i kt et k v hs
     split at h
     ·rename_i te hte
      rw [hs] at h
      obtain ⟨y,objs',ρ',u',w',g1,g2,g3,g4⟩:=JG (P:=P) H.ty H.cod S ht hs hte (aX H.ty S 0 m) (aX H.ty S kt x) h
      exact bG (bY (by simp only [execOp,ho]) g2) (hn _ _ ρ' _ w' g1 g3 g4)
     ·cases h
    ·cases h
   ·cases h
  ·rename_i t m n x ho
   split at h
   ·rename_i ti ht
    obtain ⟨kt,et,k,v,hs⟩:∃kt et k v,ti.shp= .map kt et k v:=by
      unfold iI at h
      split at h
      ·rename_i hs _;exact ⟨_,_,_,_,by assumption⟩
      ·cases h
    obtain ⟨objs',ρ',w',g1,g2,g3⟩:=EP (P:=P) H.ty H.cod S ht hs (aX H.ty S 0 m) (aX H.ty S 0 n) (aX H.ty S 0 x) h
    exact YS (QX (by simp only [execOp,ho]) g2) (hn _ _ ρ' _ w' g1 g3 .undef)
   ·cases h
  ·rename_i t x lo hi mx ho
   split at h
   ·rename_i ti ht
    split at h
    ·split at h
     ·rename_i l m hl hm
      have b1:=bj_ H.ty S hl
      have b2:=bj_ H.ty S hm
      obtain ⟨v,u',g1,g2,g3⟩:=SX (P:=P) H.ty H.cod S ht (aX H.ty S t x) b1 b2 h
      exact bG (bY (x:=Instr.sliceAt t (a.eval x) (lo.map a.eval) (hi.map a.eval) ((none:Option Operand).map a.eval)) (by simp only [execOp,ho]) g2) (hn _ _ ρ _ w g1 S g3)
     ·cases h
    ·rename_i m hh
     split at h
     ·rename_i k mm k' hv hm hhv
      have b1:=aX H.ty S 0 m
      have b2:=aX H.ty S 0 hh
      rw [hm] at b1
      rw [hhv] at b2
      obtain ⟨e1,_⟩:=a7 b1
      obtain ⟨e2,_⟩:=a7 b2
      obtain ⟨v,u',g1,g2,g3⟩:=P6 (P:=P) (k:=k') (k':=k) H.ty H.cod S ht (aX H.ty S t x) h
      refine bG (bY (x:=Instr.sliceAt t (a.eval x) ((none:Option Operand).map a.eval) ((some hh).map a.eval) ((some m).map a.eval)) (by simp only [execOp,ho]) ?_) (hn _ _ ρ _ w g1 S g3)
      simp only [Option.map_some,Option.map_none,e1,e2];exact g2
     ·cases h
    ·cases h
   ·cases h
  ·rename_i s x f ho
   split at h
   ·rename_i ti ht
    split at h
    ·rename_i fs hs
     split at h
     ·rename_i v ha hv
      obtain ⟨fields,hu,hfs,hfi⟩:=H.ty.struct s ti fs ht hs
      have hx:=aX H.ty S 0 x
      obtain ⟨b,k,hp⟩:=FP ha hx
      rw [hp] at hx
      have hd:∃d t,fs[f]? =some (d,t):=by
        unfold XL at hv
        split at hv
        ·cases hv
        ·rename_i d t hd;exact ⟨d,t,hd⟩
      obtain ⟨d,t,hd⟩:=hd
      have hr:=ab_ hd ha hv hx
      have hfd:∃fl,fields[f]? =some fl∧fl.offset=d∧fl∈fields.toList:=by
        rw [←hfs] at hd
        simp only [List.getElem?_map,Option.map_eq_some_iff] at hd
        obtain ⟨fl,e1,e2⟩:=hd
        refine ⟨fl,by rw [←Array.getElem?_toList];exact e1,by simpa using congrArg Prod.fst e2,List.mem_of_getElem? e1⟩
      obtain ⟨fl,f1,f2,f3⟩:=hfd
      obtain ⟨i,i1,i2⟩:=hfi fl f3
      refine bG (bY (x:=Instr.fieldAt s (a.eval x) f) (by simp only [execOp,ho]) (u:= .pointer (some (at' b (k+d)))) ?_) (hn _ _ ρ _ w h S hr)
      rw [hp]
      simp only [Instr.fieldAt,Sem.run_bind,run_underlying hu,Result.andThen_ok,f1,Instr.sureAddr,Sem.run_pure,fieldPlace,rP i1]
      rw [if_neg i2]
      simp [nZ,f2]
     ·cases h
    ·cases h
   ·cases h
  ·rename_i s x f ho
   split at h
   ·rename_i ti cs ht hc
    split at h
    ·rename_i fs hs
     split at h
     ·rename_i d t hd
      split at h
      ·rename_i tf htf
       split at h
       ·rename_i v hv
        obtain ⟨fields,hu,hfs,hfi⟩:=H.ty.struct s ti fs ht hs
        have hx:=aX H.ty S s x
        rw [hc] at hx
        have hfd:∃fl,fields[f]? =some fl∧fl.offset=d∧fl.type=t:=by
          rw [←hfs] at hd
          simp only [List.getElem?_map,Option.map_eq_some_iff] at hd
          obtain ⟨fl,e1,e2⟩:=hd
          exact ⟨fl,by rw [←Array.getElem?_toList];exact e1,by simpa using congrArg Prod.fst e2,by simpa using congrArg Prod.snd e2⟩
        obtain ⟨fl,f1,f2,f3⟩:=hfd
        generalize hux:a.eval x=ux at hx
        cases hx with
        | agg hl hcell hrel=>
          rename_i us
          obtain ⟨u,g1,g2⟩:=yJ (P:=P) H.ty htf (d:=d) ⟨hl,hcell,hrel⟩ hv
          refine bG (bY (x:=Instr.field s (a.eval x) f) (by simp only [execOp,ho]) (u:=u) ?_) (hn _ _ ρ _ w h S g2)
          rw [hux]
          simp only [Instr.field,Sem.run_bind,run_underlying hu,Result.andThen_ok,f1,asAgg,Sem.run_pure,f2,f3]
          exact g1
       ·cases h
      ·cases h
     ·cases h
    ·cases h
   ·cases h
  ·rename_i t x i ho
   split at h
   ·rename_i ti ht
    obtain ⟨v,u',g1,g2,g3⟩:=F8 (P:=P) H.ty H.cod S ht (aX H.ty S t x) (aX H.ty S 0 i) h
    exact bG (bY (by simp only [execOp,ho]) g2) (hn _ _ ρ _ w g1 S g3)
   ·cases h
  ·rename_i t x i ho
   split at h
   ·rename_i ti ht
    split at h
    ·rename_i hs
     split at h
     ·rename_i s k n hx0 hi0
      obtain ⟨c,hc,h⟩:=bind_some h
      have h1:=aX H.ty S t x
      have h2:=aX H.ty S 0 i
      rw [hx0] at h1
      rw [hi0] at h2
      obtain ⟨e1,_⟩:=a7 h1
      obtain ⟨e2,_⟩:=a7 h2
      have hu:=H.ty.str t ti ht hs
      unfold zN at hc
      split at hc
      ·cases hc
      ·rename_i hneg
       refine bG (bY (x:=Instr.index t (a.eval x) (a.eval i)) (by simp only [execOp,ho]) (u:= .int .u8 c.toNat) ?_) (hn _ _ ρ _ w h S (.lit rfl))
       rw [e1,e2]
       simp only [Instr.index,asIntOf,Sem.run_bind,Sem.run_pure,Result.andThen_ok,run_underlying hu]
       rw [if_pos (by omega),hc]
       rfl
     ·cases h
    ·cases h
   ·cases h
  ·rename_i t i ho
   split at h
   ·rename_i vs hv
    split at h
    ·rename_i v hi
     have hx:=aX H.ty S 0 t
     rw [hv] at hx
     generalize hux:a.eval t=ux at hx
     cases hx with
     | tup hl hrel=>
       rename_i us
       have hlt:=(List.getElem?_eq_some_iff.mp hi).1
       have hu:us[i]? =some (us[i]'(by omega)):=List.getElem?_eq_getElem _
       refine bG (bY (x:=Instr.extract (a.eval t) i) (by simp only [execOp,ho]) (u:=us[i]'(by omega)) ?_) (hn _ _ ρ _ w h S (hrel i v _ hi hu))
       rw [hux]
       simp [Instr.extract,hu]
    ·cases h
   ·cases h
  ·rename_i c ho
   split at h
   ·rename_i b hb
    split at h
    ·
      split at h
      ·rename_i x t hx ht0
       split at h
       ·rename_i ti ht
        split at h
        ·rename_i n hlen
         have hr:=aX H.ty S t x
         refine bG (u:= .int .i64 n) (w':=w) ?_ (hn _ _ ρ _ w h S (.lit rfl))
         have ha:c.args= #[x]:=by apply Array.ext';exact hx
         have hat:c.argTypes= #[t]:=by apply Array.ext';exact ht0
         have:=UV (P:=P) H.ty H.cod S (ty:=o.type) ht hr hlen
         simp only [execOp,ho,resolve,hb,invoke,builtin,ha,hat,Sem.run_bind,Sem.run_pure,Result.andThen_ok]
         simp [this]
        ·cases h
       ·cases h
      ·cases h
    ·
      split at h
      ·rename_i x y t1 t2 hx ht0
       split at h
       ·rename_i i1 i2 h1 h2
        split at h
        ·rename_i e1 s1 e2 s2 hs1 hs2
         obtain ⟨v,objs',u',w',ρ',g1,g2,g3,g4⟩:=PV (P:=P) (ty:=o.type) H.ty H.el H.cod S h1 h2 hs1 hs2 (aX H.ty S t1 x) (aX H.ty S t2 y) h
         refine bG (u:=u') (w':=w') ?_ (hn _ _ ρ' _ w' g1 g3 g4)
         have ha:c.args= #[x,y]:=by apply Array.ext';exact hx
         have hat:c.argTypes= #[t1,t2]:=by apply Array.ext';exact ht0
         simp only [execOp,ho,resolve,hb,invoke,builtin,ha,hat,Sem.run_bind,Sem.run_pure,Result.andThen_ok]
         simp [g2]
        ·rename_i e1 s1 hs1 hs2
         obtain ⟨v,objs',u',w',ρ',g1,g2,g3,g4⟩:=MO (P:=P) (ty:=o.type) H.ty H.el H.cod S h1 h2 hs1 hs2 (aX H.ty S t1 x) (aX H.ty S t2 y) h
         refine bG (u:=u') (w':=w') ?_ (hn _ _ ρ' _ w' g1 g3 g4)
         have ha:c.args= #[x,y]:=by apply Array.ext';exact hx
         have hat:c.argTypes= #[t1,t2]:=by apply Array.ext';exact ht0
         simp only [execOp,ho,resolve,hb,invoke,builtin,ha,hat,Sem.run_bind,Sem.run_pure,Result.andThen_ok]
         simp [g2]
        ·cases h
       ·cases h
      ·cases h
    ·
      split at h
      ·rename_i x y t1 t2 hx ht0
       split at h
       ·rename_i i1 h1
        split at h
        ·rename_i e1 s1 hs1
         obtain ⟨n,objs',w',g1,g2,g3⟩:=UN (P:=P) (ty:=o.type) (t2:=t2) H.ty H.cod S h1 hs1 (aX H.ty S t1 x) (aX H.ty S t2 y) h
         refine bG (u:= .int .i64 n) (w':=w') ?_ (hn _ _ ρ _ w' g1 g3 (.lit rfl))
         have ha:c.args= #[x,y]:=by apply Array.ext';exact hx
         have hat:c.argTypes= #[t1,t2]:=by apply Array.ext';exact ht0
         simp only [execOp,ho,resolve,hb,invoke,builtin,ha,hat,Sem.run_bind,Sem.run_pure,Result.andThen_ok]
         simp [g2]
        ·cases h
       ·cases h
      ·cases h
    ·cases h
   ·rename_i f hf
    split at h
    ·rename_i Sm hlen hΓ
     have hS:=H.fn f Sm hΓ
     obtain ⟨o1,o2⟩:=QN H.ty S c.args.toList c.argTypes.toList (Nat.eq_of_beq_eq_true hlen)
     obtain ⟨⟨fn,f1,f2,f3⟩,_⟩:=hS
     generalize objs.length=n0 at h
     obtain ⟨ρ1,S1,l1,_,v1⟩:=vB H.cod (jQ T env c.args.toList c.argTypes.toList) Sm.modes (c.args.toList.map a.eval) S o1 o2
     have hcall:=WL (P:=P) H.cod S1 (H.fn f Sm hΓ) (o1.trans l1.symm) v1 (K:=fun v objs=>xQ C n0 (z6 (jQ T env c.args.toList c.argTypes.toList) Sm.modes) objs fun objs=>K v objs) h
     have hex:(execOp a.eval o).run P w= .ok (.enter f (c.args.toList.map a.eval).toArray) w:=by
       simp only [execOp,ho,resolve,hf,Act.eval,Deferred.ofValue,invoke,Sem.run_bind,Sem.run_pure,Result.andThen_ok,callFunc,run_program,f1]
       have f3':fn.body.isNone=false:=by cases hb:fn.body<;>simp_all
       have f2' : ¬ (fn.name = "runtime.NumGoroutine") := by simpa using f2
       simp [f2',f3']
       apply Array.ext';simp
     simp only [Oper.wp,hex,Oper.upon]
     refine hcall.mono ?_
     rintro e w' ⟨v,u,objs',ρ',rfl,g1,g2,g3⟩
     obtain ⟨objs2,ρ2,k1,k2,k3⟩:=FT H.cod _ g2 g1
     exact hn _ _ ρ2 _ w' k1 k2 (k3 _ _ g3)
    ·cases h
   ·cases h
  ·cases h
end
end Km
namespace Km
open Go
variable {κ:Type} {Ty:κ→Type} {R:Type}
section
variable {P:Program} {C:Cod κ Ty} {T:TypeId→Option (TI κ Ty)} {Γ:FuncId→Option (bU κ Ty)}
variable {Mut:Nat→Prop} {Lent:Org κ Ty} {w0 w w':World} {ρ ρ' ρ2:Nat→Loc} {env:Env κ Ty} {objs objs' objs2:aH κ Ty} {a:Act} {tm:Array Value}
variable {next:Act→World→Prop} {Q:Exit→Act→World→Prop} {o:Oper}
theorem nN (d:Nat) (v:AV κ Ty) (env:Env κ Ty) (i:Nat):look ((d,v)::env) i=if i=d then v else look env i:=by
  simp only [look]
  by_cases h:i=d
  ·subst h;simp
  ·rw [if_neg h]
   have:Nat.beq d i=false:=by
     cases hb:Nat.beq d i with
     | false=>rfl
     | true=>exact absurd (Nat.eq_of_beq_eq_true hb).symm h
   rw [this]
theorem SRel.setEnv (S:SRel C Mut Lent w0 ρ env objs tm w) {env':Env κ Ty} {tm':Array Value} (h:∀i,look env' i= .undef∨∃u,tm'[i]? =some u∧VRel C w Mut ρ objs (look env' i) u):SRel C Mut Lent w0 ρ env' objs tm' w:=
  {S with env:=h}
theorem SRel.know (S:SRel C Mut Lent w0 ρ env objs tm w) {d:Nat} {v:AV κ Ty} (h:∃u,tm[d]? =some u∧VRel C w Mut ρ objs v u):SRel C Mut Lent w0 ρ ((d,v)::env) objs tm w:=
  S.setEnv fun i=>by
    rw [nN]
    split
    ·rename_i e;subst e;exact .inr h
    ·exact S.env i
theorem P5 (S:SRel C Mut Lent w0 ρ env objs a.tmps w) {v:AV κ Ty} {u:Value} (hr:VRel C w Mut ρ objs v u) (hd:∀d,o.dst=some d→d<a.tmps.size):SRel C Mut Lent w0 ρ (put o env v) objs (a.put o.dst u).tmps w:=by
  unfold put
  split
  ·rename_i d hdd
   have hlt:=hd d hdd
   refine S.setEnv fun i=> ?_
   rw [nN]
   have ht:(a.put o.dst u).tmps=a.tmps.setIfInBounds d u:=by simp [Act.put,hdd]
   rw [ht]
   split
   ·rename_i e;subst e
    exact .inr ⟨u,by simp [hlt],hr⟩
   ·rename_i e
    rcases S.env i with h | ⟨u',h1,h2⟩
    ·exact .inl h
    ·exact .inr ⟨u',by rw [Array.getElem?_setIfInBounds_ne (Ne.symm e)];exact h1,h2⟩
  ·rename_i hdd
   simpa [Act.put,hdd] using S
theorem HX (dst:Option Tmp) (u:Value):(a.put dst u).tmps.size=a.tmps.size:=by cases dst<;>simp [Act.put]
theorem uL (dst:Option Tmp) (u:Value):(a.put dst u).defers=a.defers:=by cases dst<;>rfl
theorem eqB_iff {p q:Bool}:eqB p q=true↔p=q:=by cases p<;>cases q<;>simp [eqB]
theorem H5 [GlobOk C Mut Lent w0] (H:Known P C T Γ) {all:Array Oper} (S:SRel C Mut Lent w0 ρ env objs a.tmps w) (hd:∀d,o.dst=some d→d<a.tmps.size) {K:Env κ Ty→aH κ Ty→Option R} {r:R} (h:yN C T Γ all o env objs K=some r)
    (hn:∀env' objs' ρ' a' w',K env' objs'=some r→SRel C Mut Lent w0 ρ' env' objs' a'.tmps w'→a'.tmps.size=a.tmps.size→a'.defers=a.defers→next a' w'):
    if Region.wanted o (yielded all a.tmps) then o.wp P a w next Q else next (a.put o.dst Go.undef) w:=by
  unfold yN at h
  split at h
  ·rename_i hg
   have hw:Region.wanted o (yielded all a.tmps)=true:=by simp [Region.wanted,hg]
   rw [if_pos hw]
   exact SN H S h fun v objs' ρ' u w' hK S' hv=>hn _ _ ρ' _ w' hK (P5 S' hv hd) (HX _ _) (uL _ _)
  ·rename_i j want hg
   split at h
   ·cases h
   ·rename_i d hdst
    split at h
    ·rename_i b hb
     have h:=BJ h
     have hyd:∃u,a.tmps[d]? =some u∧u= .bool b:=by
       rcases S.env d with e | ⟨u,h1,h2⟩
       ·rw [hb] at e;cases e
       ·rw [hb] at h2;exact ⟨u,h1,(a7 h2).1⟩
     obtain ⟨u,hu1,rfl⟩:=hyd
     have hy:yielded all a.tmps j=some b:=by simp [yielded,hdst,hu1]
     have S1:SRel C Mut Lent w0 ρ ((d, .lit (.bool b))::env) objs a.tmps w:=S.know ⟨_,hu1, .lit rfl⟩
     split at h
     ·rename_i he
      have he:=eqB_iff.mp he
      have hw:Region.wanted o (yielded all a.tmps)=true:=by simp [Region.wanted,hg,hy,he]
      rw [if_pos hw]
      exact SN H S1 h fun v objs' ρ' u w' hK S' hv=>hn _ _ ρ' _ w' hK (P5 S' hv hd) (HX _ _) (uL _ _)
     ·rename_i he
      have hne:b≠want:=fun e=>by rw [eqB_iff.mpr e] at he;cases he
      have hw:¬Region.wanted o (yielded all a.tmps)=true:=by simp [Region.wanted,hg,hy,hne]
      rw [if_neg hw]
      exact hn _ _ ρ _ w h (P5 S1 .void hd) (HX _ _) (uL _ _)
    ·rename_i hb
     have hyd:∃u,a.tmps[d]? =some u∧u=Go.undef:=by
       rcases S.env d with e | ⟨u,h1,h2⟩
       ·rw [hb] at e;cases e
       ·rw [hb] at h2;cases h2;exact ⟨_,h1,rfl⟩
     obtain ⟨u,hu1,rfl⟩:=hyd
     have hy:yielded all a.tmps j=none:=by simp [yielded,hdst,hu1,Go.undef]
     have hw:¬Region.wanted o (yielded all a.tmps)=true:=by simp [Region.wanted,hg,hy]
     rw [if_neg hw]
     exact hn _ _ ρ _ w h (P5 S .void hd) (HX _ _) (uL _ _)
    ·cases h
theorem OH [GlobOk C Mut Lent w0] (H:Known P C T Γ) {all:Array Oper} {nt:Nat}:∀(os:List Oper) (i:Nat) (env:Env κ Ty) (objs:aH κ Ty) (ρ:Nat→Loc) (a:Act) (w:World) {K:Env κ Ty→aH κ Ty→Option R} {r:R},
    (∀k,os[k]? =all[i+k]?)→(∀o∈os,∀d,o.dst=some d→d<nt)→a.tmps.size=nt→SRel C Mut Lent w0 ρ env objs a.tmps w→gq_ C T Γ all os env objs K=some r→
    (∀env' objs' ρ' a' w',K env' objs'=some r→SRel C Mut Lent w0 ρ' env' objs' a'.tmps w'→a'.tmps.size=nt→a'.defers=a.defers→Q .normal a' w')→
    wpOps P all Q (List.range' i os.length) a w
  | [],i,env,objs,ρ,a,w,K,r,hos,hd,hsz,S,h,hn=>hn _ _ ρ _ _ h S hsz rfl
  | o::os,i,env,objs,ρ,a,w,K,r,hos,hd,hsz,S,h,hn=>by
    have ho:all[i]? =some o:=by have:=hos 0;simpa using this.symm
    simp only [List.length_cons,List.range'_succ,wpOps,ho]
    simp only [gq_] at h
    have hs:=H5 (next:=wpOps P all Q (List.range' (i+1) os.length)) (Q:=Q) H S (hd:=fun d hdd=>by rw [hsz];exact hd o (by simp) d hdd) h (fun env' objs' ρ' a' w' hK S' hz hdf=>
      OH H os (i+1) env' objs' ρ' a' w' (fun k=>by have:=hos (k+1);rw [show i+1+k=i+(k+1) by omega];simpa using this) (fun o ho=>hd o (by simp [ho])) (hz.trans hsz) S' hK
        (fun e2 o2 ρ2 a2 w2 k2 S2 z2 d2=>hn e2 o2 ρ2 a2 w2 k2 S2 z2 (d2.trans hdf)))
    split at hs
    ·rename_i hw;rw [if_pos hw];exact .inl hs
    ·rename_i hw;rw [if_neg hw];exact hs
end
end Km
namespace Km
open Go
variable {κ:Type} {Ty:κ→Type} {R:Type}
section
variable {P:Program} {C:Cod κ Ty} {T:TypeId→Option (TI κ Ty)} {Γ:FuncId→Option (bU κ Ty)}
variable {Mut:Nat→Prop} {Lent:Org κ Ty} {w0 w w':World} {ρ ρ' ρ2:Nat→Loc} {env:Env κ Ty} {objs objs' objs2:aH κ Ty} {tm:Array Value}
def OR (C:Cod κ Ty) (w:World) (Mut:Nat→Prop) (ρ:Nat→Loc) (objs:aH κ Ty) (v:AV κ Ty):Option Value→Prop
  | some u=>VRel C w Mut ρ objs v u
  | none=>v= .undef
def ORL (C:Cod κ Ty) (w:World) (Mut:Nat→Prop) (ρ:Nat→Loc) (objs:aH κ Ty):List (AV κ Ty)→List (Option Value)→Prop
  | [],[]=>True
  | v::vs,u::us=>OR C w Mut ρ objs v u∧ORL C w Mut ρ objs vs us
  | _,_=>False
structure More (C:Cod κ Ty) (w:World) (Mut:Nat→Prop) (ρ:Nat→Loc) (objs:aH κ Ty) (ρ':Nat→Loc) (objs':aH κ Ty):Prop where
  len:objs.length≤objs'.length
  rel:∀(v:AV κ Ty) (u:Value),VRel C w Mut ρ objs v u→VRel C w Mut ρ' objs' v u
  same:∀i,i<objs.length→objs'[i]? =objs[i]?
theorem More.refl:More C w Mut ρ objs ρ objs:=⟨Nat.le_refl _,fun _ _ h=>h,fun _ _=>rfl⟩
theorem More.trans {ρ3:Nat→Loc} {objs3:aH κ Ty} (h:More C w Mut ρ objs ρ' objs') (g:More C w Mut ρ' objs' ρ3 objs3):More C w Mut ρ objs ρ3 objs3:=
  ⟨Nat.le_trans h.len g.len,fun v u x=>g.rel v u (h.rel v u x),fun i hi=>(g.same i (Nat.lt_of_lt_of_le hi h.len)).trans (h.same i hi)⟩
theorem OR.more (h:More C w Mut ρ objs ρ' objs') {v:AV κ Ty} {u:Option Value} (x:OR C w Mut ρ objs v u):OR C w Mut ρ' objs' v u:=by
  cases u with
  | none=>exact x
  | some u=>exact h.rel v u x
theorem ORL.more (h:More C w Mut ρ objs ρ' objs'):∀{vs:List (AV κ Ty)} {us:List (Option Value)},ORL C w Mut ρ objs vs us→ORL C w Mut ρ' objs' vs us
  | [],[],_=>trivial
  | _::_,_::_,⟨a,b⟩=>⟨a.more h,b.more h⟩
theorem SRel.pushNil (S:SRel C Mut Lent w0 ρ env objs tm w) (t:κ):∃ρ',SRel C Mut Lent w0 ρ' env (objs++[.sl t []]) tm w∧More C w Mut ρ objs ρ' (objs++[.sl t []])∧∀A,VRel C w Mut ρ' (objs++[.sl t []]) (.own objs.length) (.slice A 0 0):=by
  have nf:∀b,¬aG (upd ρ objs.length ⟨0,0,0,noSub⟩) (objs++[AObj.sl t []]) objs.length b:=fun b hb=>by
    unfold aG at hb;rw [bW,aV] at hb;exact hb.1 rfl
  have W:WStep w w (bJ ρ objs) (bJ (upd ρ objs.length ⟨0,0,0,noSub⟩) (objs++[AObj.sl t []])):=⟨fun _ _ _=>rfl,Nat.le_refl _,fun b ⟨i,hi⟩=>by
    rcases rF (fun _=>rfl) hi with ⟨_,h⟩ | ⟨h1,_⟩
    ·exact .inl ⟨i,h⟩
    ·subst h1;exact absurd hi (nf b)⟩
  refine ⟨upd ρ objs.length ⟨0,0,0,noSub⟩, ?_,⟨by simp,fun v u h=>h.step W (by simp) (jV _ _),fun i hi=>dS hi⟩, ?_⟩
  ·refine S.take (w':=w) (.refl objs) (fun b _ _=>rfl) (Nat.le_refl _) (.inr nf) (fun b _=>rfl) (fun W=> ?_) rfl rfl rfl
   unfold ORel;rw [bW,aV]
   exact ⟨Nat.le_refl _,fun h=>absurd rfl h,fun i x j cl hx=>by simp at hx,fun q hq=>(by simp at hq), .zero⟩
  ·intro A
   have:=VRel.own (C:=C) (w:=w) (Mut:=Mut) (ρ:=upd ρ objs.length ⟨0,0,0,noSub⟩) (bW objs (.sl t [])) (A:=A) (fun h=>by rw [aV] at h;exact absurd rfl h)
   rw [aV] at this
   exact this
theorem SRel.pushNilRw (S:SRel C Mut Lent w0 ρ env objs tm w) {t:κ} (hx:C.xcl t=true):∃ρ',SRel C Mut Lent w0 ρ' env (objs++[.rw t [] 0 none]) tm w∧More C w Mut ρ objs ρ' (objs++[.rw t [] 0 none])∧∀A,VRel C w Mut ρ' (objs++[.rw t [] 0 none]) (.rwv objs.length) (.slice A 0 0):=by
  have nf:∀b,¬aG (upd ρ objs.length ⟨0,0,0,noSub⟩) (objs++[AObj.rw t [] 0 none]) objs.length b:=fun b hb=>by
    unfold aG at hb;rw [bW,aV] at hb
    rcases hb with hb | ⟨q,hb,_⟩
    ·exact hb.1 rfl
    ·exact hb rfl
  have W:WStep w w (bJ ρ objs) (bJ (upd ρ objs.length ⟨0,0,0,noSub⟩) (objs++[AObj.rw t [] 0 none])):=⟨fun _ _ _=>rfl,Nat.le_refl _,fun b ⟨i,hi⟩=>by
    rcases rF (fun _=>rfl) hi with ⟨_,h⟩ | ⟨h1,_⟩
    ·exact .inl ⟨i,h⟩
    ·subst h1;exact absurd hi (nf b)⟩
  refine ⟨upd ρ objs.length ⟨0,0,0,noSub⟩, ?_,⟨by simp,fun v u h=>h.step W (by simp) (jV _ _),fun i hi=>dS hi⟩, ?_⟩
  ·refine S.take (w':=w) (.refl objs) (fun b _ _=>rfl) (Nat.le_refl _) (.inr nf) (fun b _=>rfl) (fun W=> ?_) rfl rfl rfl
   unfold ORel;rw [bW,aV]
   exact ⟨hx,Nat.le_refl _,fun h=>absurd rfl h,fun i x j cl hx=>by simp at hx,fun q hq=>by simp at hq,fun q hq=>absurd rfl hq,fun p q hq=>absurd rfl hq,fun q hq=>absurd rfl hq,fun q hq=>absurd rfl hq⟩
  ·intro A
   have:=VRel.rwv (C:=C) (w:=w) (Mut:=Mut) (ρ:=upd ρ objs.length ⟨0,0,0,noSub⟩) (cO (bW objs (.rw t [] 0 none))) (A:=A) (fun h=>by rw [aV] at h;exact absurd rfl h)
   rw [aV] at this
   exact this
theorem FW (S:SRel C Mut Lent w0 ρ env objs tm w) {v:AV κ Ty} {u:Option Value} (h:OR C w Mut ρ objs v u):∃ρ',SRel C Mut Lent w0 ρ' env (z7 C objs v).2 tm w∧More C w Mut ρ objs ρ' (z7 C objs v).2∧OR C w Mut ρ' (z7 C objs v).2 (z7 C objs v).1 u:=by
  unfold z7
  split
  ·rename_i t
   cases hx:C.xcl t with
   | true=>
     obtain ⟨ρ',h1,h2,h3⟩:=S.pushNilRw hx
     refine ⟨ρ',h1,h2, ?_⟩
     cases u with
     | none=>cases h
     | some u=>cases h;exact h3 _
   | false=>
     obtain ⟨ρ',h1,h2,h3⟩:=S.pushNil t
     refine ⟨ρ',h1,h2, ?_⟩
     cases u with
     | none=>cases h
     | some u=>cases h;exact h3 _
  ·exact ⟨ρ,S, .refl,h⟩
theorem xM:∀(vs:List (AV κ Ty)) (us:List (Option Value)) (objs:aH κ Ty) (ρ:Nat→Loc),SRel C Mut Lent w0 ρ env objs tm w→ORL C w Mut ρ objs vs us→
    ∃ρ',SRel C Mut Lent w0 ρ' env (nT C objs vs).2 tm w∧More C w Mut ρ objs ρ' (nT C objs vs).2∧ORL C w Mut ρ' (nT C objs vs).2 (nT C objs vs).1 us
  | [],[],objs,ρ,S,_=>⟨ρ,S, .refl,trivial⟩
  | v::vs,u::us,objs,ρ,S,⟨h1,h2⟩=>by
    obtain ⟨ρ1,a1,a2,a3⟩:=FW S h1
    obtain ⟨ρ2,b1,b2,b3⟩:=xM vs us _ ρ1 a1 (h2.more a2)
    exact ⟨ρ2,b1,a2.trans b2,⟨a3.more b2,b3⟩⟩
  | [],_::_,_,_,_,h=>h.elim
  | _::_,[],_,_,_,h=>h.elim
theorem sU {cs:List (AV κ Ty)} {us:List Value} (hl:us.length=cs.length) (h:∀(j:Nat) (cl:AV κ Ty) (u:Value),cs[j]? =some cl→us[j]? =some u→VRel C w Mut ρ objs cl u):ORL C w Mut ρ objs cs (us.map some):=by
  induction cs generalizing us with
  | nil=>cases us with | nil=>trivial | cons _ _=>simp at hl
  | cons c cs ih=>
    cases us with
    | nil=>simp at hl
    | cons u us=>exact ⟨h 0 c u rfl rfl,ih (by simpa using hl) (fun j cl u a b=>h (j+1) cl u (by simpa using a) (by simpa using b))⟩
theorem rU {cs:List (AV κ Ty)} {us:List Value} (h:ORL C w Mut ρ objs cs (us.map some)):us.length=cs.length∧∀(j:Nat) (cl:AV κ Ty) (u:Value),cs[j]? =some cl→us[j]? =some u→VRel C w Mut ρ objs cl u:=by
  induction cs generalizing us with
  | nil=>cases us with | nil=>exact ⟨rfl,fun j cl u h=>by simp at h⟩ | cons _ _=>exact h.elim
  | cons c cs ih=>
    cases us with
    | nil=>exact h.elim
    | cons u us=>
      obtain ⟨a,b⟩:=ih h.2
      refine ⟨by simp [a],fun j cl u' h1 h2=> ?_⟩
      cases j with
      | zero=>simp at h1 h2;subst h1;subst h2;exact h.1
      | succ j=>exact b j cl u' (by simpa using h1) (by simpa using h2)
theorem TQ (S:SRel C Mut Lent w0 ρ env objs tm w) {v:AV κ Ty} {u:Option Value} (h:OR C w Mut ρ objs v u):∃ρ',SRel C Mut Lent w0 ρ' env (NG C objs v).2 tm w∧More C w Mut ρ objs ρ' (NG C objs v).2∧OR C w Mut ρ' (NG C objs v).2 (NG C objs v).1 u:=by
  by_cases hv:∃cs,v= .agg cs
  ·obtain ⟨cs,rfl⟩:=hv
   cases u with
   | none=>cases h
   | some u=>
     cases h with
     | agg hl hcell hrel=>
       obtain ⟨ρ1,a1,a2,a3⟩:=xM cs _ objs ρ S (sU hl hrel)
       obtain ⟨b1,b2⟩:=rU a3
       exact ⟨ρ1,a1,a2, .agg b1 hcell b2⟩
  ·have e:NG C objs v=z7 C objs v:=by cases v<;>first | rfl | exact absurd ⟨_,rfl⟩ hv
   rw [e];exact FW S h
theorem F4:∀(vs:List (AV κ Ty)) (us:List (Option Value)) (objs:aH κ Ty) (ρ:Nat→Loc),SRel C Mut Lent w0 ρ env objs tm w→ORL C w Mut ρ objs vs us→
    ∃ρ',SRel C Mut Lent w0 ρ' env (pN C objs vs).2 tm w∧More C w Mut ρ objs ρ' (pN C objs vs).2∧ORL C w Mut ρ' (pN C objs vs).2 (pN C objs vs).1 us
  | [],[],objs,ρ,S,_=>⟨ρ,S, .refl,trivial⟩
  | v::vs,u::us,objs,ρ,S,⟨h1,h2⟩=>by
    obtain ⟨ρ1,a1,a2,a3⟩:=TQ S h1
    obtain ⟨ρ2,b1,b2,b3⟩:=F4 vs us _ ρ1 a1 (h2.more a2)
    exact ⟨ρ2,b1,a2.trans b2,⟨a3.more b2,b3⟩⟩
  | [],_::_,_,_,_,h=>h.elim
  | _::_,[],_,_,_,h=>h.elim
theorem SRel.rebox (S:SRel C Mut Lent w0 ρ env objs tm w) {n:Nat} {cs cs':List (AV κ Ty)} (h:objs[n]? =some (.box cs)) (hl:cs'.length=cs.length) (hs:bsh cs'=true→bsh cs=true) (hf:frs cs'=true→frs cs=true)
    (hc:∀(j:Nat) (cl:AV κ Ty) (v:Value),cs'[j]? =some cl→w.cell? (at' (ρ n).block ((ρ n).off+j))=some v→bD v=true→VRel C w Mut ρ objs cl v):
    SRel C Mut Lent w0 ρ env (objs.set n (.box cs')) tm w∧∀(v:AV κ Ty) (u:Value),VRel C w Mut ρ objs v u→VRel C w Mut ρ (objs.set n (.box cs')) v u:=by
  have hlt:=(List.getElem?_eq_some_iff.mp h).1
  have hset:(objs.set n (AObj.box cs'))[n]? =some (.box cs'):=by simp [hlt]
  have hne:∀k,k≠n→(objs.set n (AObj.box cs'))[k]? =objs[k]? :=fun k h=>List.getElem?_set_ne (Ne.symm h)
  have hft:∀k b,aG ρ (objs.set n (AObj.box cs')) k b→aG ρ objs k b:=fun k b hk=>by
    by_cases e:k=n
    ·subst e;unfold aG at hk⊢;rw [hset] at hk;rw [h];exact hk
    ·unfold aG at hk⊢;rw [hne k e] at hk;exact hk
  have W:WStep w w (bJ ρ objs) (bJ ρ (objs.set n (AObj.box cs'))):=WStep.same fun b ⟨i,hi⟩=>⟨i,hft i b hi⟩
  have hcm:∀k,Compat ρ objs ρ (objs.set n (AObj.box cs')) k:=fun k=>by
    by_cases e:k=n
    ·subst e;unfold Compat;rw [h];exact .inl ⟨_,hset,rfl⟩
    ·exact Compat.of_eq (fun _=>hne k e) (fun _=>rfl)
  refine ⟨S.step W (by simp) hcm (fun k=> ?_) (fun i j b hi hj=>S.inj i j b (hft i b hi) (hft j b hj)) rfl rfl rfl,fun v u hv=>hv.step W (by simp) hcm⟩
  by_cases e:k=n
  ·subst e
   have ho:=S.ob k
   unfold ORel at ho⊢
   rw [h] at ho;rw [hset]
   refine ⟨ho.1,fun j cl hj=> ?_,fun hb=>ho.2.2.1 (hs hb),fun hb=>ho.2.2.2 (hf hb)⟩
   have hjl:j<cs.length:=by have:=(List.getElem?_eq_some_iff.mp hj).1;omega
   obtain ⟨v,a1,a2,_,a4⟩:=ho.2.1 j _ (List.getElem?_eq_getElem hjl)
   exact ⟨v,a1,a2,(hc j cl v hj a1 a2).step W (by simp) hcm,a4⟩
  ·exact ORel.step W (by simp) hcm (S.ob k) (hne k e) rfl (fun _ _=>rfl)
theorem u5:∀(cs:List (AV κ Ty)) (objs:aH κ Ty),(nT C objs cs).1.length=cs.length
  | [],_=>rfl
  | c::cs,objs=>by simp [nT,u5 cs]
theorem bc_:∀(cs:List (AV κ Ty)) (objs:aH κ Ty),bsh (nT C objs cs).1=true→bsh cs=true
  | [],_,h=>h
  | [c],objs,h=>by simp [nT,bsh] at h
  | [c,d],objs,h=>by
    simp only [nT] at h
    cases c with
    | nil t=>
      simp only [z7] at h
      cases hx:C.xcl t<;>rw [hx] at h<;>cases h
    | _=>first | rfl | exact h
  | _::_::_::_,objs,h=>by simp [nT,bsh] at h
theorem b7_:∀(cs:List (AV κ Ty)) (objs:aH κ Ty),frs (nT C objs cs).1=true→frs cs=true
  | [],_,h=>h
  | [c],objs,h=>by simp [nT,frs] at h
  | [c,d],objs,h=>by
    simp only [nT] at h
    cases c with
    | nil t=>
      simp only [z7] at h
      cases hx:C.xcl t<;>rw [hx] at h<;>cases h
    | _=>first | rfl | exact h
  | _::_::_::_,objs,h=>by simp [nT,frs] at h
theorem FQ:∀(n:Nat) (objs:aH κ Ty) (ρ:Nat→Loc),SRel C Mut Lent w0 ρ env objs tm w→
    ∃ρ',SRel C Mut Lent w0 ρ' env (sQ C n objs) tm w∧objs.length≤(sQ C n objs).length∧∀(v:AV κ Ty) (u:Value),VRel C w Mut ρ objs v u→VRel C w Mut ρ' (sQ C n objs) v u
  | 0,objs,ρ,S=>⟨ρ,S,Nat.le_refl _,fun _ _ h=>h⟩
  | n+1,objs,ρ,S=>by
    obtain ⟨ρ1,a1,a2,a3⟩:=FQ n objs ρ S
    simp only [sQ]
    split
    ·rename_i cs hcs
     have ho:=a1.ob n
     simp only [ORel,hcs] at ho
     have hor:ORL C w Mut ρ1 (sQ C n objs) cs (((List.range cs.length).map fun j=>(w.cell? (at' (ρ1 n).block ((ρ1 n).off+j))).getD Go.undef).map some):=by
       refine sU (by simp) (fun j cl u hj hu=> ?_)
       obtain ⟨v,b1,_,b3,_⟩:=ho.2.1 j cl hj
       have hjl:=(List.getElem?_eq_some_iff.mp hj).1
       rw [List.getElem?_map,List.getElem?_range hjl] at hu
       simp only [Option.map_some,b1,Option.getD_some,Option.some.injEq] at hu
       rw [←hu];exact b3
     obtain ⟨ρ2,c1,c2,c3⟩:=xM cs _ _ ρ1 a1 hor
     obtain ⟨d1,d2⟩:=rU c3
     have hn:n<(sQ C n objs).length:=(List.getElem?_eq_some_iff.mp hcs).1
     have hcs2:(nT C (sQ C n objs) cs).2[n]? =some (.box cs):=by rw [c2.same n hn];exact hcs
     have hρ:∀(u:Value),VRel C w Mut ρ2 (nT C (sQ C n objs) cs).2 (.ref n 0) u→VRel C w Mut ρ1 (sQ C n objs) (.ref n 0) u→True:=fun _ _ _=>trivial
     have hloc:ρ2 n=ρ1 n∨True:= .inr trivial
     have href:=c2.rel _ _ (VRel.ref (C:=C) (w:=w) (Mut:=Mut) (off:=0) hcs)
     have hblk:(ρ2 n).block=(ρ1 n).block∧(ρ2 n).off=(ρ1 n).off:=by
       generalize hq:Value.pointer (some (at' (ρ1 n).block ((ρ1 n).off+0)))=q at href
       cases href with
       | ref h=>simp [at'] at hq;exact ⟨hq.1.symm,hq.2.symm⟩
       | refd hc hin h=>rw [ds_ hcs2] at h;cases h
     obtain ⟨e1,e2⟩:=c1.rebox hcs2 (u5 cs _) (bc_ cs _) (b7_ cs _) (fun j cl v hj hv hcl=>by
       have hjl:j<cs.length:=by have:=(List.getElem?_eq_some_iff.mp hj).1;rwa [u5 (C:=C)] at this
       refine d2 j cl v hj ?_
       rw [List.getElem?_map,List.getElem?_range hjl]
       rw [hblk.1,hblk.2] at hv
       simp [hv])
     exact ⟨ρ2,e1,by have:=c2.len;simp;omega,fun v u h=>e2 v u (c2.rel v u (a3 v u h))⟩
    ·exact ⟨ρ1,a1,a2,a3⟩
end
end Km
namespace Km
open Go
variable {κ:Type} {Ty:κ→Type} {R:Type}
section
variable {P:Program} {C:Cod κ Ty} {T:TypeId→Option (TI κ Ty)} {Γ:FuncId→Option (bU κ Ty)}
variable {Mut:Nat→Prop} {Lent:Org κ Ty} {w0 w w':World} {ρ ρ' ρ2:Nat→Loc} {env:Env κ Ty} {objs objs' objs2:aH κ Ty} {tm:Array Value}
theorem JZ {l:List Nat} (hl:∀i∈l,i<objs.length):GK true Mut ρ objs Mut (pI ρ l) (lS objs l):=by
  intro b k _ h h'
  rcases h' with ⟨j,hj⟩ | ⟨hb,hm⟩
  ·obtain ⟨i,_,hi⟩:=hZ hl hj
   exact h (.inl ⟨i,hi⟩)
  ·exact h (.inr ⟨hb,hm⟩)
theorem CompW.gone {id:Nat} (h:CompW ρ objs ρ' objs' id) (hg:NB objs id) (hin:id<objs.length):NB objs' id:=by
  unfold CompW at h
  split at h
  ·rename_i t xs g ho e;exact absurd e (JO hg.2.2.2 t xs g ho)
  ·exact h.gone hg hin
theorem CompW.strong {id:Nat} (h:CompW ρ objs ρ' objs' id) (hno:∀t xs g ho,objs[id]? ≠some (.rw t xs g ho)):Compat ρ objs ρ' objs' id:=by
  unfold CompW at h
  split at h
  ·rename_i e;exact absurd e (hno _ _ _ _)
  ·exact h
theorem CompW.transW {ρ3:Nat→Loc} {objs3:aH κ Ty} {id:Nat} (hl:objs.length≤objs'.length) (h:CompW ρ objs ρ' objs' id) (g:CompW ρ' objs' ρ3 objs3 id):CompW ρ objs ρ3 objs3 id:=by
  by_cases hm:∃t xs gn ho,objs'[id]? =some (.rw t xs gn ho)
  ·obtain ⟨t',xs',gn',ho',e'⟩:=hm
   unfold CompW at g
   rw [e'] at g
   have nog:¬NB objs' id:=fun h=>JO h.2.2.2 _ _ _ _ e'
   by_cases ho:∃t xs gn ho,objs[id]? =some (.rw t xs gn ho)
   ·obtain ⟨t,xs,gn,hh,e⟩:=ho
    unfold CompW at h⊢
    rw [e] at h⊢
    rcases h with ⟨ys,g',h',e1,el,es⟩ | h
    ·rw [e'] at e1;cases e1
     rcases g with ⟨zs,g3,h3,e3,el3,es3⟩ | g
     ·exact .inl ⟨zs,g3,h3,e3,el3.trans el,es.trans es3⟩
     ·exact .inr g
    ·exact absurd h nog
   ·have hno:∀t xs g ho,objs[id]? ≠some (.rw t xs g ho):=fun t xs g h e=>ho ⟨t,xs,g,h,e⟩
    have hs:=h.strong hno
    unfold CompW
    split
    ·rename_i e;exact absurd e (hno _ _ _ _)
    unfold Compat at hs⊢
    split
    ·rename_i e;rw [e] at hs
     rcases hs with ⟨_,e1,_⟩ | h
     ·rw [e'] at e1;cases e1
     ·exact absurd h nog
    ·rename_i e;rw [e] at hs
     rcases hs with ⟨_,e1,_⟩ | h
     ·rw [e'] at e1;cases e1
     ·exact absurd h nog
    ·rename_i e;rw [e] at hs
     rcases hs with ⟨_,_,e1,_⟩ | h
     ·rw [e'] at e1;cases e1
     ·exact absurd h nog
    ·rename_i e;exact absurd e (hno _ _ _ _)
    ·rename_i e;rw [e] at hs
     rcases hs with ⟨ys,e1,el,es⟩ | h
     ·rw [cO e'] at e1;cases e1
      rcases g with ⟨zs,g3,h3,e3,el3,es3⟩ | g
      ·exact .inl ⟨zs,cO e3,el3.trans el,es.trans es3⟩
      ·exact .inr g
     ·exact absurd h nog
    ·rename_i e;rw [e] at hs
     exact absurd hs nog
    ·trivial
  ·exact h.trans hl (g.strong fun t xs gn ho e=>hm ⟨t,xs,gn,ho,e⟩)
theorem SRel.shrink (HC:bH C) (S:SRel C Mut Lent w0 ρ env objs tm w) {l:List Nat} (hn:l.Nodup) (hl:∀i∈l,i<objs.length) (hpre:∀i,i<Lent.objs.length→l[i]? =some i):
    SRel C Mut Lent w0 (pI ρ l) [] (lS objs l) tm w:=by
  refine {S with env:=fun i=> .inl rfl,ob:=fun j=> ?_,inj:=fun i j b hi hj=> ?_,live:=fun b ⟨j,hj⟩=> ?_,comp:=fun i=> ?_,len:= ?_}
  ·by_cases hj:j<l.length
   ·have hi:=hl _ (List.getElem_mem hj)
    exact ORel.ren HC (CD ρ objs l) (JZ hl) (PF hn (List.getElem?_eq_getElem hj)) (List.getElem?_eq_getElem hi) (fun h=>by cases h) (S.ob _)
   ·unfold ORel
    have:(lS objs l)[j]? =none:=List.getElem?_eq_none (by simp [lS];omega)
    rw [this];trivial
  ·obtain ⟨p,h1,h2⟩:=hZ hl hi
   obtain ⟨q,g1,g2⟩:=hZ hl hj
   have:=S.inj p q b h2 g2
   subst this
   have hk:=(List.getElem?_eq_some_iff.mp h1).1
   exact (List.getElem?_inj hk hn).mp (h1.trans g1.symm)
  ·obtain ⟨i,_,hi⟩:=hZ hl hj
   exact S.live b ⟨i,hi⟩
  ·by_cases hi:i<Lent.objs.length
   ·have hli:=hpre i hi
    have hio:=hl i (List.mem_of_getElem? hli)
    have hc:=S.comp i
    have hlo:(lS objs l)[i]? =some (yV (zH l · 0) objs[i]):=by
      simp only [lS,List.getElem?_map,hli,Option.map_some,List.getElem?_eq_getElem hio]
    have hlρ:pI ρ l i=ρ i:=by simp [pI,List.getD,hli]
    have hobj:objs[i]? =some objs[i]:=List.getElem?_eq_getElem hio
    refine hc.transW S.len ?_
    unfold CompW Compat
    rw [hobj]
    cases ho:objs[i] with
    | dead=>rw [ho] at hlo;exact (aZ hlo)
    | box cs=>rw [ho] at hlo;exact .inl ⟨_,hlo,hlρ⟩
    | sl t xs=>rw [ho] at hlo;exact .inl ⟨xs,hlo,rfl,hlρ⟩
    | mp k v es hh=>rw [ho] at hlo;exact .inl ⟨es,_,hlo,by rw [hlρ]⟩
    | rw t xs g hh=>
      rw [ho] at hlo
      cases hh with
      | none=>exact .inl ⟨xs,0,none,hlo,rfl,by rw [hlρ];exact .refl _⟩
      | some p=>exact .inr (aZ hlo)
    | rp t xs n=>rw [ho] at hlo;exact .inl ⟨xs,gO hlo,rfl,by rw [hlρ];exact .refl _⟩
   ·unfold CompW Compat
    rw [List.getElem?_eq_none (by omega)];trivial
  ·rcases Nat.eq_zero_or_pos Lent.objs.length with h0 | h0
   ·omega
   ·have h1:=hpre (Lent.objs.length-1) (by omega)
    have:=(List.getElem?_eq_some_iff.mp h1).1
    simp [lS];omega
theorem cX_ {m:Nat} {l:List Nat}:∀i,i<m→(E3 (List.range m) l)[i]? =some i:=by
  intro i hi
  obtain ⟨k,hk⟩:=uS l (List.range m)
  rw [hk,List.getElem?_append_left (by simpa using hi)]
  simp [hi]
theorem cf_ {acc:List Nat} {m:Nat} (h:∀i,i<m→acc[i]? =some i):∀i,i<m→(yQ objs acc)[i]? =some i:=by
  intro i hi
  unfold yQ
  have e1:∀(a l:List Nat),(∀i,i<m→a[i]? =some i)→∀i,i<m→(E3 a l)[i]? =some i:=fun a l ha i hi=>by
    obtain ⟨k,hk⟩:=uS l a
    have:=ha i hi
    have hlt:=(List.getElem?_eq_some_iff.mp this).1
    rw [hk,List.getElem?_append_left hlt];exact this
  exact e1 _ _ (e1 _ _ h) i hi
theorem OR.ids {v:AV κ Ty} {u:Option Value} (h:OR C w Mut ρ objs v u):∀i∈cU v,i<objs.length:=by
  cases u with
  | none=>cases h;intro i hi;simp [cU,rO,kV] at hi
  | some u=>exact AC h
theorem ORL.map (h:∀(v:AV κ Ty) (u:Value),VRel C w Mut ρ objs v u→VRel C w Mut ρ2 objs2 v u):∀{vs:List (AV κ Ty)} {us:List (Option Value)},ORL C w Mut ρ objs vs us→ORL C w Mut ρ2 objs2 vs us
  | [],[],_=>trivial
  | v::vs,u::us,⟨h1,h2⟩=>by
    refine ⟨?_,h2.map h⟩
    cases u with
    | none=>exact h1
    | some u=>exact h _ _ h1
theorem ORL.ids:∀{vs:List (AV κ Ty)} {us:List (Option Value)},ORL C w Mut ρ objs vs us→∀i∈vs.flatMap cU,i<objs.length
  | [],[],_,i,hi=>by simp at hi
  | v::vs,u::us,⟨h1,h2⟩,i,hi=>by
    simp only [List.flatMap_cons,List.mem_append] at hi
    exact hi.elim (h1.ids i) (h2.ids i)
theorem ORL.ren (HC:bH C) {g:Nat→Option Nat} (G:Ren g ρ objs ρ2 objs2) (hX:GK true Mut ρ objs Mut ρ2 objs2):∀{vs:List (AV κ Ty)} {us:List (Option Value)},ORL C w Mut ρ objs vs us→ORL C w Mut ρ2 objs2 (vs.map (HW g)) us
  | [],[],_=>trivial
  | v::vs,u::us,⟨h1,h2⟩=>by
    refine ⟨?_,h2.ren HC G hX⟩
    cases u with
    | none=>cases h1;exact rfl
    | some u=>exact G9 HC G hX (fun h=>by cases h) (fun h=>by cases h) h1
theorem J8 (S:SRel C Mut Lent w0 ρ env objs tm w) {m:Nat} {l:List Nat} {v:AV κ Ty} {u:Option Value} (h:OR C w Mut ρ objs v u):
    ∃ρ',SRel C Mut Lent w0 ρ' env (R2 m l objs v).2 tm w∧(∀(x:AV κ Ty) (q:Value),VRel C w Mut ρ objs x q→VRel C w Mut ρ' (R2 m l objs v).2 x q)∧OR C w Mut ρ' (R2 m l objs v).2 (R2 m l objs v).1 u:=by
  unfold R2
  split
  ·rename_i id lo hi
   split
   ·split
    ·rename_i t xs hsl
     have hsl':=cB hsl
     have ho:=S.ob id
     simp only [ORel,hsl'] at ho
     obtain ⟨ho1,ho2,ho3,ho4,ho5⟩:=ho
     cases u with
     | none=>cases h
     | some u=>
       cases h with
       | subd hcl hin h1=>rw [h1] at hsl;cases hsl
       | @sub _ _ _ c _ _ A h1 hlo hhi hc hcap hA=>
         rw [hsl'] at h1;cases h1
         have hlen:(objs.set id AObj.dead).length=objs.length:=by simp
         have hw:=Weaker.kill objs id
         have hpz:(lo+c)*C.sz t≤(ρ id).cap*C.sz t:=Nat.mul_le_mul_right _ hcap
         rw [Nat.add_mul] at hpz
         have hS:=S.take (w':=w) (objs1:=objs.set id .dead) (o:= .sl t (iA xs lo hi)) (l:=⟨(ρ id).block,(ρ id).off+lo*C.sz t,c,noSub⟩) hw (fun b _ _=>rfl) (Nat.le_refl _) (by
           by_cases hc0:c=0
           ·refine .inr fun b hb=> ?_
            unfold aG at hb;rw [bW,aV] at hb;exact hb.1 hc0
           ·refine .inl (.inr ⟨⟨id,dA hsl' (by omega)⟩,fun i hi'=> ?_⟩)
            obtain ⟨g1,g2⟩:=lH hi'
            exact g1 (S.inj _ _ _ g2 (dA hsl' (by omega)))) (fun b _=>rfl) (fun W=>by
            unfold ORel;rw [bW,aV]
            refine ⟨by rw [iG _ _ _ hhi];exact hc,fun h=>ho2 (by show (ρ id).cap≠0;have:c≠0:=h;omega),fun i x j cl hx hj=> ?_,fun q hq=> ?_,ho5.mono fun hn=>⟨by have hn:c≠0:=hn;omega,rfl⟩⟩
            ·obtain ⟨hx,_⟩:=xE hx
             obtain ⟨v,a1,a2⟩:=ho3 (lo+i) x j cl hx hj
             refine ⟨v, ?_,a2.step W (by simp) (eA hw _ _)⟩
             rw [Nat.add_mul] at a1
             rw [←a1]
             show w.cell? (at' (ρ id).block ((ρ id).off+lo*C.sz t+i*C.sz t+j))=_
             congr 2;omega
            ·have hq:q<c*C.sz t:=hq
             obtain ⟨v,a1,a2,a3⟩:=ho4 (lo*C.sz t+q) (by omega)
             have e:at' (ρ id).block ((ρ id).off+lo*C.sz t+q)=at' (ρ id).block ((ρ id).off+(lo*C.sz t+q)):=by rw [Nat.add_assoc]
             refine ⟨v, ?_,a2, ?_⟩
             ·show w.cell? (at' (ρ id).block ((ρ id).off+lo*C.sz t+q))=_
              rw [e];exact a1
             ·show w.frozen? (at' (ρ id).block ((ρ id).off+lo*C.sz t+q))=_
              rw [e];exact a3) rfl rfl rfl
         rw [hlen] at hS
         have hrel:∀(x:AV κ Ty) (q:Value),VRel C w Mut ρ objs x q→VRel C w Mut (upd ρ objs.length ⟨(ρ id).block,(ρ id).off+lo*C.sz t,c,noSub⟩) (objs.set id .dead++[.sl t (iA xs lo hi)]) x q:=fun x q hx=>by
           have W:WStep w w (bJ ρ objs) (bJ (upd ρ objs.length ⟨(ρ id).block,(ρ id).off+lo*C.sz t,c,noSub⟩) (objs.set id .dead++[.sl t (iA xs lo hi)])):=⟨fun _ _ _=>rfl,Nat.le_refl _,fun b ⟨i,hi'⟩=>by
             have hf:=rF (objs:=objs.set id .dead) (o:= .sl t (iA xs lo hi)) (l:=⟨(ρ id).block,(ρ id).off+lo*C.sz t,c,noSub⟩) (fun _=>rfl) (by rw [hlen];exact hi')
             rcases hf with ⟨_,h⟩ | ⟨h1,h2⟩
             ·exact .inl ⟨i,hw.foot h⟩
             ·by_cases hc0:c=0
              ·exfalso
               rw [hlen] at h1;subst h1
               unfold aG at hi'
               rw [show objs.length=(objs.set id AObj.dead).length from hlen.symm,bW] at hi'
               rw [hlen,aV] at hi'
               exact hi'.1 hc0
              ·rw [h2];exact .inl ⟨id,dA hsl' (by omega)⟩⟩
           refine hx.step W (by simp) (fun i=> ?_)
           have:=eA (ρ:=ρ) hw (.sl t (iA xs lo hi)) ⟨(ρ id).block,(ρ id).off+lo*C.sz t,c,noSub⟩ i
           rw [hlen] at this;exact this
         refine ⟨_,hS,hrel, ?_⟩
         have:=VRel.own (C:=C) (w:=w) (Mut:=Mut) (ρ:=upd ρ objs.length ⟨(ρ id).block,(ρ id).off+lo*C.sz t,c,noSub⟩) (objs:=objs.set id .dead++[.sl t (iA xs lo hi)]) (id:=objs.length) (t:=t) (xs:=iA xs lo hi) (A:=A) (by rw [←hlen];exact bW _ _) (fun h=>by rw [aV] at h⊢;exact hA h)
         rw [aV,iG _ _ _ hhi] at this
         exact this
    ·exact ⟨ρ,S,fun _ _ h=>h,h⟩
   ·exact ⟨ρ,S,fun _ _ h=>h,h⟩
  ·exact ⟨ρ,S,fun _ _ h=>h,h⟩
theorem JS {m:Nat} {l:List Nat}:∀(vs:List (AV κ Ty)) (us:List (Option Value)) (objs:aH κ Ty) (ρ:Nat→Loc),SRel C Mut Lent w0 ρ env objs tm w→ORL C w Mut ρ objs vs us→
    ∃ρ',SRel C Mut Lent w0 ρ' env (ZJ m l objs vs).2 tm w∧(∀(x:AV κ Ty) (q:Value),VRel C w Mut ρ objs x q→VRel C w Mut ρ' (ZJ m l objs vs).2 x q)∧ORL C w Mut ρ' (ZJ m l objs vs).2 (ZJ m l objs vs).1 us
  | [],[],objs,ρ,S,_=>⟨ρ,S,fun _ _ h=>h,trivial⟩
  | v::vs,u::us,objs,ρ,S,⟨h1,h2⟩=>by
    obtain ⟨ρ1,a1,a2,a3⟩:=J8 S (m:=m) (l:=l) h1
    obtain ⟨ρ2,b1,b2,b3⟩:=JS vs us _ ρ1 a1 (h2.map a2)
    refine ⟨ρ2,b1,fun x q h=>b2 x q (a2 x q h),⟨?_,b3⟩⟩
    cases u with
    | none=>exact a3
    | some u=>exact b2 _ _ a3
  | [],_::_,_,_,_,h=>h.elim
  | _::_,[],_,_,_,h=>h.elim
theorem WH (S:SRel C Mut Lent w0 ρ env objs tm w) {m:Nat} {l:List Nat} {v:AV κ Ty} {u:Option Value} (h:OR C w Mut ρ objs v u):
    ∃ρ',SRel C Mut Lent w0 ρ' env (Y0 m l objs v).2 tm w∧(∀(x:AV κ Ty) (q:Value),VRel C w Mut ρ objs x q→VRel C w Mut ρ' (Y0 m l objs v).2 x q)∧OR C w Mut ρ' (Y0 m l objs v).2 (Y0 m l objs v).1 u:=by
  by_cases hv:∃cs,v= .agg cs
  ·obtain ⟨cs,rfl⟩:=hv
   cases u with
   | none=>cases h
   | some u=>
     cases h with
     | agg hl hcell hrel=>
       obtain ⟨ρ1,a1,a2,a3⟩:=JS (m:=m) (l:=l) cs _ objs ρ S (sU hl hrel)
       obtain ⟨b1,b2⟩:=rU a3
       exact ⟨ρ1,a1,a2, .agg b1 hcell b2⟩
  ·have e:Y0 m l objs v=R2 m l objs v:=by cases v<;>first | rfl | exact absurd ⟨_,rfl⟩ hv
   rw [e];exact J8 S h
theorem JH {m:Nat} {l:List Nat}:∀(vs:List (AV κ Ty)) (us:List (Option Value)) (objs:aH κ Ty) (ρ:Nat→Loc),SRel C Mut Lent w0 ρ env objs tm w→ORL C w Mut ρ objs vs us→
    ∃ρ',SRel C Mut Lent w0 ρ' env (UZ m l objs vs).2 tm w∧(∀(x:AV κ Ty) (q:Value),VRel C w Mut ρ objs x q→VRel C w Mut ρ' (UZ m l objs vs).2 x q)∧ORL C w Mut ρ' (UZ m l objs vs).2 (UZ m l objs vs).1 us
  | [],[],objs,ρ,S,_=>⟨ρ,S,fun _ _ h=>h,trivial⟩
  | v::vs,u::us,objs,ρ,S,⟨h1,h2⟩=>by
    obtain ⟨ρ1,a1,a2,a3⟩:=WH S (m:=m) (l:=l) h1
    obtain ⟨ρ2,b1,b2,b3⟩:=JH vs us _ ρ1 a1 (h2.map a2)
    refine ⟨ρ2,b1,fun x q h=>b2 x q (a2 x q h),⟨?_,b3⟩⟩
    cases u with
    | none=>exact a3
    | some u=>exact b2 _ _ a3
  | [],_::_,_,_,_,h=>h.elim
  | _::_,[],_,_,_,h=>h.elim
theorem BA {l:List Nat}:∀(n:Nat) (objs:aH κ Ty),SRel C Mut Lent w0 ρ env objs tm w→SRel C Mut Lent w0 ρ env (W4 l n objs) tm w∧∀(x:AV κ Ty) (q:Value),VRel C w Mut ρ objs x q→VRel C w Mut ρ (W4 l n objs) x q
  | 0,objs,S=>⟨S,fun _ _ h=>h⟩
  | n+1,objs,S=>by
    simp only [W4]
    split
    ·exact BA n objs S
    ·obtain ⟨h1,h2⟩:=BA n _ (S.kill n)
     exact ⟨h1,fun x q h=>h2 x q (h.kill n)⟩
theorem CP (HC:bH C) (S:SRel C Mut Lent w0 ρ env objs tm w) {vs:List (AV κ Ty)} {us:List (Option Value)} (h:ORL C w Mut ρ objs vs us):
    ∃ρ',SRel C Mut Lent w0 ρ' [] (AT C Lent.objs.length vs objs).2 tm w∧ORL C w Mut ρ' (AT C Lent.objs.length vs objs).2 (AT C Lent.objs.length vs objs).1 us:=by
  unfold AT
  obtain ⟨ρs,Ss,hs⟩:=C8 HC objs.length objs ρ S
  generalize K3 C objs.length objs=objsS at Ss hs
  replace h:=h.map hs
  replace S:=Ss
  clear hs Ss
  generalize objsS=objs at S h
  generalize ρs=ρ at S h
  dsimp only
  have hp:=BA (l:=yQ objs (E3 (List.range Lent.objs.length) (vs.flatMap cU))) objs.length objs S
  generalize W4 (yQ objs (E3 (List.range Lent.objs.length) (vs.flatMap cU))) objs.length objs=objsP at hp
  replace S:=hp.1
  replace h:=h.map hp.2
  clear hp
  generalize objsP=objs at S h
  try dsimp only
  obtain ⟨ρ0,z1,z2,z3⟩:=JH (m:=Lent.objs.length) (l:=vs.flatMap cU++objs.flatMap VG) vs us objs ρ S h
  revert z1 z2 z3
  generalize UZ Lent.objs.length (vs.flatMap cU++objs.flatMap VG) objs vs=q0
  obtain ⟨vs,objs⟩:=q0
  intro S z2 h
  generalize ρ0=ρ at S z2 h
  dsimp only at S h⊢
  obtain ⟨ρ1,a1,a2,a3⟩:=F4 vs us objs ρ S h
  obtain ⟨ρ2,b1,b2,b3⟩:=FQ (pN C objs vs).2.length _ ρ1 a1
  have b4:ORL C w Mut ρ2 (sQ C (pN C objs vs).2.length (pN C objs vs).2) (pN C objs vs).1 us:=by
    exact a3.map b3
  have hlen:Lent.objs.length≤(sQ C (pN C objs vs).2.length (pN C objs vs).2).length:=b1.len
  have hn0:(List.range Lent.objs.length).Nodup:=List.nodup_range
  have hn:=HY (objs:=sQ C (pN C objs vs).2.length (pN C objs vs).2) (n8 (l:=(pN C objs vs).1.flatMap cU) hn0)
  have hl:=X0 b1 (n8 (l:=(pN C objs vs).1.flatMap cU) hn0) (fun i hi=>by
    rw [HP hn0] at hi
    rcases hi with hi | hi
    ·simp at hi;omega
    ·exact b4.ids i hi)
  refine ⟨pI ρ2 _,b1.shrink HC hn hl (cf_ cX_), ?_⟩
  exact b4.ren HC (CD ρ2 _ _) (JZ hl)
end
end Km
namespace Km
open Go
variable {κ:Type} {Ty:κ→Type} {R α:Type}
section
variable {C:Cod κ Ty} {T:TypeId→Option (TI κ Ty)} {Γ:FuncId→Option (bU κ Ty)} {objs objs':aH κ Ty} {env env':Env κ Ty}
theorem eN_ (b:Bool) (K:Bool→Option α) (F:α→Option R):ifB b (fun t=>(K t).bind F)=(ifB b K).bind F:=by cases b<;>rfl
theorem dc_ (op:BinOp) (k:IntKind) (a b:Int) (K:Value→Option α) (F:α→Option R):fe_ op k a b (fun v=>(K v).bind F)=(fe_ op k a b K).bind F:=by
  cases op<;>simp [fe_,Option.bind_assoc]
theorem dv_ (op:BinOp) (a b:ByteArray) (K:Value→Option α) (F:α→Option R):fg_ op a b (fun v=>(K v).bind F)=(fg_ op a b K).bind F:=by
  cases op<;>simp [fg_,Option.bind_assoc]
theorem dk_ (ti:TI κ Ty) (op:BinOp) (x y:AV κ Ty) (K:AV κ Ty→Option α) (F:α→Option R):fc_ ti op x y (fun v=>(K v).bind F)=(fc_ ti op x y K).bind F:=by
  unfold fc_
  split
  ·split
   ·rw [Option.bind_assoc]
   ·rfl
  ·split
   ·rw [Option.bind_assoc]
   ·rfl
  ·split
   ·split
    ·exact dc_ _ _ _ _ _ _
    ·rfl
   ·exact dv_ _ _ _ _ _
   ·split
    ·split<;>rfl
    ·rfl
   ·rfl
theorem bb_ (ti:TI κ Ty) (a:AV κ Ty) (K:AV κ Ty→Option α) (F:α→Option R):GC C objs ti a (fun v=>(K v).bind F)=(GC C objs ti a K).bind F:=by
  unfold GC
  split
  ·split
   ·split<;>rfl
   ·rfl
  ·split
   ·rename_i s xs h
    rw [Option.bind_assoc]
    congr 1;funext x
    split<;>rfl
   ·rfl
  ·split<;>rfl
  ·split
   ·rw [Option.bind_assoc]
    congr 1;funext x
    split<;>rfl
   ·rw [Option.bind_assoc]
    congr 1;funext x
    split<;>rfl
   ·rfl
  ·rfl
theorem Z7 (t:TypeId) (a:AV κ Ty) (K:AV κ Ty→Option α) (F:α→Option R):BQ C T objs t a (fun v=>(K v).bind F)=(BQ C T objs t a K).bind F:=by
  unfold BQ
  split
  ·split
   ·split<;>rfl
   ·rfl
  ·split
   ·exact bb_ _ _ _ _
   ·rfl
theorem ZW (t:TypeId) (m key:AV κ Ty) (K:AV κ Ty→Option α) (F:α→Option R):M8 C t m key (fun v=>(K v).bind F)=(M8 C t m key K).bind F:=by
  unfold M8
  split
  ·split
   ·split
    ·split
     ·unfold optK;split<;>rfl
     ·rfl
    ·rfl
   ·rfl
  ·rfl
theorem oJ {b0:Bool}:∀(ns:List (AV κ Ty)) (objs:aH κ Ty) (K:List (AV κ Ty)→aH κ Ty→Option α) (F:α→Option R),jK C b0 objs ns (fun a b=>(K a b).bind F)=(jK C b0 objs ns K).bind F
  | [],objs,K,F=>rfl
  | c::cs,objs,K,F=>by
    cases c<;>simp only [jK]<;>first
      | rfl
      | exact oJ cs _ _ _
      | (split
         ·first | exact oJ cs _ _ _ | (split<;>first | exact oJ cs _ _ _ | rfl)
         ·rfl)
theorem Z8 (ti:TI κ Ty) (a x:AV κ Ty) (K:aH κ Ty→Option α) (F:α→Option R):FR C objs ti a x (fun v=>(K v).bind F)=(FR C objs ti a x K).bind F:=by
  unfold FR
  split
  ·rfl
  ·split
   ·rfl
   ·split
    ·split
     ·split<;>rfl
     ·rfl
    ·split
     ·rw [Option.bind_assoc]
      congr 1;funext z
      rw [←oJ]
      congr 1;funext p q
      split
      ·split
       ·split<;>rfl
       ·rfl
      ·rfl
     ·rfl
    ·split
     ·split
      ·rw [Option.bind_assoc]
       congr 1;funext z
       rw [←oJ]
       congr 1;funext p q
       split
       ·split<;>rfl
       ·rfl
      ·rw [Option.bind_assoc]
       congr 1;funext z
       rw [←oJ]
       congr 1;funext p q
       split
       ·split<;>rfl
       ·rfl
      ·rfl
     ·rfl
    ·rfl
theorem L5 (shp:Shp κ) (x i:AV κ Ty) (K:AV κ Ty→Option α) (F:α→Option R):kF C objs shp x i (fun v=>(K v).bind F)=(kF C objs shp x i K).bind F:=by
  unfold kF
  split
  ·split
   ·split
    ·split
     ·split
      ·rw [Option.bind_assoc]
      ·rfl
     ·rfl
    ·split
     ·rw [Option.bind_assoc]
     ·rfl
    ·split
     ·split
      ·rw [Option.bind_assoc]
      ·rfl
     ·rfl
    ·split
     ·split
      ·rw [Option.bind_assoc]
      ·rfl
     ·rfl
    ·rfl
   ·split
    ·split
     ·split
      ·rw [Option.bind_assoc]
      ·rfl
     ·rfl
    ·split
     ·rw [Option.bind_assoc]
     ·rfl
    ·rfl
   ·rfl
  ·rfl
theorem ZP (shp:Shp κ) (x:AV κ Ty) (lo hi:Option Int) (K:AV κ Ty→Option α) (F:α→Option R):C4 C objs shp x lo hi (fun v=>(K v).bind F)=(C4 C objs shp x lo hi K).bind F:=by
  unfold C4
  split
  ·split
   ·rw [Option.bind_assoc]
   ·rfl
  ·split
   ·split
    ·split
     ·rw [Option.bind_assoc]
     ·rfl
    ·rfl
   ·split
    ·rw [Option.bind_assoc]
    ·rfl
   ·rw [Option.bind_assoc]
   ·rfl
  ·split
   ·split
    ·split
     ·rw [Option.bind_assoc]
     ·rfl
    ·rfl
   ·rfl
  ·rfl
theorem R9 (t:κ):∀(ps:List (Nat×AV κ Ty)) (n:Nat) (objs:aH κ Ty) (K:List (Ty t)→aH κ Ty→Option α) (F:α→Option R),G0 C t objs n ps (fun a b=>(K a b).bind F)=(G0 C t objs n ps K).bind F
  | [],n,objs,K,F=>rfl
  | (i,v)::ps,n,objs,K,F=>by
    simp only [G0]
    split
    ·rfl
    ·split
     ·rfl
     ·split
      ·rfl
      ·rw [←oJ]
       congr 1;funext p q
       split
       ·exact R9 t ps _ _ _ _
       ·rfl
theorem XC (s1:κ) (x y:AV κ Ty) (K:AV κ Ty→aH κ Ty→Option α) (F:α→Option R):wP C objs s1 x y (fun a b=>(K a b).bind F)=(wP C objs s1 x y K).bind F:=by
  unfold wP
  split
  ·rfl
  ·rw [Option.bind_assoc]
   congr 1;funext ys
   split
   ·rw [Option.bind_assoc]
    congr 1;funext zs
    split<;>rfl
   ·split
    ·simp only [Option.bind_assoc]
    ·rfl
   ·split
    ·simp only [Option.bind_assoc]
    ·rfl
   ·rfl
theorem Q0 (s1:κ) (x y:AV κ Ty) (K:AV κ Ty→aH κ Ty→Option α) (F:α→Option R):sT C objs s1 x y (fun a b=>(K a b).bind F)=(sT C objs s1 x y K).bind F:=by
  unfold sT
  split
  ·split
   ·rw [Option.bind_assoc]
    congr 1;funext ys
    split
    ·split
     ·simp only [Option.bind_assoc]
     ·rfl
    ·rfl
   ·rfl
  ·rfl
theorem VA (shp:Shp κ) (x:AV κ Ty) (h m:Int) (K:AV κ Ty→Option α) (F:α→Option R):uI C objs shp x h m (fun v=>(K v).bind F)=(uI C objs shp x h m K).bind F:=by
  unfold uI
  split
  ·split
   ·split
    ·split
     ·rw [Option.bind_assoc]
     ·rfl
    ·rfl
   ·rfl
  ·rfl
theorem bB_ (s:κ) (x y:AV κ Ty) (K:AV κ Ty→aH κ Ty→Option α) (F:α→Option R):TH C objs s x y (fun a b=>(K a b).bind F)=(TH C objs s x y K).bind F:=by
  unfold TH
  split
  ·rfl
  ·split
   ·split
    ·split
     ·rw [Option.bind_assoc]
     ·rfl
    ·rfl
   ·split
    ·split
     ·rw [Option.bind_assoc]
     ·rfl
    ·rfl
   ·rfl
theorem b0_ (S:bU κ Ty) (bs:List Nat) (args:List (AV κ Ty)) (K:AV κ Ty→aH κ Ty→Option α) (F:α→Option R):JB objs S bs args (fun a b=>(K a b).bind F)=(JB objs S bs args K).bind F:=by
  unfold JB
  dsimp only
  split
  ·rfl
  ·rw [Option.bind_assoc]
theorem bA_ (m id:Nat) (objs:aH κ Ty) (K:aH κ Ty→Option α) (F:α→Option R):R6 C m id objs (fun o=>(K o).bind F)=(R6 C m id objs K).bind F:=by
  unfold R6
  split
  ·split
   ·split
    ·rfl
    ·rw [Option.bind_assoc]
     congr 1;funext x
     split<;>rfl
   ·rfl
  ·rfl
theorem N6 (m:Nat):∀(l:List Nat) (objs:aH κ Ty) (K:aH κ Ty→Option α) (F:α→Option R),xQ C m l objs (fun o=>(K o).bind F)=(xQ C m l objs K).bind F
  | [],objs,K,F=>rfl
  | n::l,objs,K,F=>by
    simp only [xQ]
    rw [←bA_]
    congr 1;funext o
    exact N6 m l o K F
theorem P2 {β:Type} (o:Option β) (K0:Option α) (K1:β→Option α) (F:α→Option R):optK o (K0.bind F) (fun a=>(K1 a).bind F)=(optK o K0 K1).bind F:=by cases o<;>rfl
theorem PC (shp:Shp κ) (m key:AV κ Ty) (K:Nat→(k v:κ)→List (Ty k×Ty v)→Ty k→Option α) (F:α→Option R):aU_ C objs shp m key (fun i k v es x=>(K i k v es x).bind F)=(aU_ C objs shp m key K).bind F:=by
  unfold aU_
  split
  ·split
   ·split
    ·split
     ·split<;>rfl
     ·rfl
    ·rfl
   ·rfl
  ·rfl
theorem SE (shp:Shp κ) (m key:AV κ Ty) (z:Value) (K:AV κ Ty→Option α) (F:α→Option R):qG C objs shp m key z (fun v=>(K v).bind F)=(qG C objs shp m key z K).bind F:=by
  unfold qG
  rw [←PC]
  congr 1;funext _ k v es x
  rw [←P2]
  congr 1;funext p
  split<;>rfl
theorem YD (objs:aH κ Ty) (id:Nat) (k v:κ) (es:List (Ty k×Ty v)) (p:Nat×Ty v) (K:AV κ Ty→aH κ Ty→Option α) (F:α→Option R):dm_ C objs id k v es p (fun a b=>(K a b).bind F)=(dm_ C objs id k v es p K).bind F:=by
  unfold dm_
  split<;>rfl
theorem UE (shp:Shp κ) (m key:AV κ Ty) (s:κ) (K:AV κ Ty→aH κ Ty→Option α) (F:α→Option R):rV C objs shp m key s (fun a b=>(K a b).bind F)=(rV C objs shp m key s K).bind F:=by
  unfold rV
  dsimp only
  rw [←PC]
  congr 1;funext _ k v es x
  rw [←P2]
  congr 1;funext p
  exact YD _ _ _ _ _ _ _ _
theorem OV (shp:Shp κ) (m key:AV κ Ty) (te:TI κ Ty) (K:AV κ Ty→aH κ Ty→Option α) (F:α→Option R):oY C objs shp m key te (fun a b=>(K a b).bind F)=(oY C objs shp m key te K).bind F:=by
  unfold oY
  dsimp only
  rw [←PC]
  congr 1;funext _ k v es x
  rw [←P2]
  congr 1
  ·split<;>rfl
  ·funext p
   exact YD _ _ _ _ _ _ (fun r objs=>K (.tup [r, .lit (.int .i64 (p.1:Nat))]) objs) _
theorem Q1 (objs:aH κ Ty) (v:κ) (x:AV κ Ty) (K:Ty v→aH κ Ty→Option α) (F:α→Option R):LZ C objs v x (fun a b=>(K a b).bind F)=(LZ C objs v x K).bind F:=by
  unfold LZ
  split
  ·split<;>rfl
  ·split
   ·split<;>rfl
   ·rfl
  ·rfl
theorem KF (shp:Shp κ) (m n x:AV κ Ty) (K:aH κ Ty→Option α) (F:α→Option R):iI C objs shp m n x (fun v=>(K v).bind F)=(iI C objs shp m n x K).bind F:=by
  unfold iI
  split
  ·split
   ·split
    ·split
     ·rw [Option.bind_assoc]
      congr 1;funext e
      exact Q1 _ _ _ _ _
     ·split
      ·rw [Option.bind_assoc]
       congr 1;funext e
       exact Q1 _ _ _ _ _
      ·rfl
    ·rfl
   ·rfl
  ·rfl
theorem bp_ (o:Oper) (K:AV κ Ty→aH κ Ty→Option α) (F:α→Option R):aop C T Γ o env objs (fun a b=>(K a b).bind F)=(aop C T Γ o env objs K).bind F:=by
  unfold aop
  split
  ·rfl
  ·rfl
  ·split
   ·exact eN_ _ _ _
   ·rfl
  ·split
   ·split
    ·split
     ·split<;>rfl
     ·split
      ·split<;>rfl
      ·rfl
    ·split
     ·split<;>rfl
     ·rfl
   ·rfl
  ·split
   ·split<;>rfl
   ·rfl
  ·split
   ·split
    ·split<;>rfl
    ·rfl
   ·rfl
  ·split
   ·split
    ·split
     ·split
      ·rfl
      ·split
       ·split<;>rfl
       ·exact R9 _ _ _ _ _ _
     ·rfl
    ·rfl
   ·rfl
  ·exact Z7 _ _ _ _
  ·split
   ·exact Z8 _ _ _ _ _
   ·rfl
  ·split<;>rfl
  ·split
   ·split
    ·split
     ·split<;>rfl
     ·rfl
    ·exact dk_ _ _ _ _ _ _
   ·rfl
  ·split
   ·split<;>rfl
   ·rfl
  ·split
   ·split
    ·split<;>rfl
    ·split
     ·split
      ·split
       ·split
        ·split<;>rfl
        ·rfl
       ·rfl
      ·rfl
     ·rfl
    ·split
     ·split
      ·split
       ·split<;>rfl
       ·rfl
      ·rfl
     ·rfl
    ·rfl
   ·rfl
  ·split
   ·split
    ·split
     ·split
      ·rw [Option.bind_assoc]
       congr 1;funext m
       split
       ·split
        ·split<;>rfl
        ·rfl
       ·rfl
      ·rfl
     ·rfl
    ·rfl
   ·rfl
  ·split
   ·split
    ·split<;>rfl
    ·rfl
   ·rfl
  ·split
   ·exact ZW _ _ _ _ _
   ·split
    ·split
     ·split
      ·split
       ·exact SE _ _ _ _ _ _
       ·exact UE _ _ _ _ _ _
       ·rfl
      ·rfl
     ·rfl
    ·rfl
  ·split
   ·split
    ·split
     ·exact OV _ _ _ _ _ _
     ·rfl
    ·rfl
   ·rfl
  ·split
   ·exact KF _ _ _ _ _ _
   ·rfl
  ·split
   ·split
    ·split
     ·exact ZP _ _ _ _ _ _
     ·rfl
    ·split
     ·exact VA _ _ _ _ _ _
     ·rfl
    ·rfl
   ·rfl
  ·split
   ·split
    ·split<;>rfl
    ·rfl
   ·rfl
  ·split
   ·split
    ·split
     ·split
      ·split<;>rfl
      ·rfl
     ·rfl
    ·rfl
   ·rfl
  ·split
   ·exact L5 _ _ _ _ _
   ·rfl
  ·split
   ·split
    ·split
     ·rw [Option.bind_assoc]
     ·rfl
    ·rfl
   ·rfl
  ·split
   ·split<;>rfl
   ·rfl
  ·split
   ·split
    ·split
     ·split
      ·split<;>rfl
      ·rfl
     ·rfl
    ·split
     ·split
      ·split
       ·exact XC _ _ _ _ _
       ·exact Q0 _ _ _ _ _
       ·rfl
      ·rfl
     ·rfl
    ·split
     ·split
      ·split
       ·exact bB_ _ _ _ _ _
       ·rfl
      ·rfl
     ·rfl
    ·rfl
   ·split
    ·rename_i S _ _
     generalize pU C objs (jQ T env _ _) S.modes=p
     obtain ⟨as,o1⟩:=p
     dsimp only
     rw [←b0_]
     congr 1;funext v o
     exact N6 _ _ _ (fun o=>K v o) F
    ·rfl
   ·rfl
  ·rfl
abbrev A8 (C:Cod κ Ty) (T:TypeId→Option (TI κ Ty)) (Γ:FuncId→Option (bU κ Ty)) (o:Oper) (env:Env κ Ty) (objs:aH κ Ty):Option (AV κ Ty×aH κ Ty):=aop C T Γ o env objs fun a b=>some (a,b)
theorem OX (o:Oper) (K:AV κ Ty→aH κ Ty→Option R):aop C T Γ o env objs K=(A8 C T Γ o env objs).bind fun p=>K p.1 p.2:=bp_ o (fun a b=>some (a,b)) fun (p:AV κ Ty×aH κ Ty)=>K p.1 p.2
theorem cp_ {o:Oper} {K:AV κ Ty→aH κ Ty→Option R} {r:R} (h:aop C T Γ o env objs K=some r):∃v objs1,A8 C T Γ o env objs=some (v,objs1)∧K v objs1=some r:=by
  rw [OX] at h
  cases hv:A8 C T Γ o env objs with
  | none=>rw [hv] at h;cases h
  | some p=>rw [hv] at h;exact ⟨p.1,p.2,rfl,h⟩
def Y7 (xs:List Operand) (env env':Env κ Ty):Prop:=∀t, .tmp t∈xs→look env' t=look env t
theorem yD {xs:List Operand} (h:Y7 xs env env') (ty:TypeId) {x:Operand} (hx:x∈xs):iV T env' ty x=iV T env ty x:=by
  cases x with
  | tmp t=>exact h t hx
  | _=>rfl
theorem uJ {xs:List Operand} (h:Y7 xs env env') (ty:Nat→TypeId):∀(ps:List (Nat×Operand)),(∀p∈ps,p.2∈xs)→kX T env' ty ps=kX T env ty ps
  | [],_=>rfl
  | (i,x)::ps,hp=>by simp only [kX];rw [yD h _ (hp (i,x) (by simp)),uJ h ty ps (fun p m=>hp p (by simp [m]))]
theorem JD {xs:List Operand} (h:Y7 xs env env'):∀(as:List Operand) (ts:List TypeId),(∀a∈as,a∈xs)→jQ T env' as ts=jQ T env as ts
  | [],ts,_=>by simp [jQ]
  | a::as,[],_=>by simp [jQ]
  | a::as,t::ts,hp=>by simp only [jQ];rw [yD h _ (hp a (by simp)),JD h as ts (fun p m=>hp p (by simp [m]))]
theorem KY {o:Oper} (h:Y7 o.op.operands.toList env env') (K:AV κ Ty→aH κ Ty→Option R):aop C T Γ o env' objs K=aop C T Γ o env objs K∧bB C T Γ o env' objs=bB C T Γ o env objs:=by
  have E:∀ty x,x∈o.op.operands.toList→iV T env' ty x=iV T env ty x:=fun ty x hx=>yD h ty hx
  obtain ⟨dst,op,type,pos,after,guard⟩:=o
  simp only at E h
  cases op with
  | move x=>simp only [aop,bB,E type x (by simp [Op.operands])]<;>first | exact ⟨rfl,rfl⟩ | trivial
  | assign x=>simp only [aop,bB,E type x (by simp [Op.operands])]<;>first | exact ⟨rfl,rfl⟩ | trivial
  | pick c a b=>simp only [aop,bB,E _ c (by simp [Op.operands]),E _ a (by simp [Op.operands]),E _ b (by simp [Op.operands])]<;>first | exact ⟨rfl,rfl⟩ | trivial
  | alloc t=>exact ⟨rfl,rfl⟩
  | box t x=>simp only [aop,bB,E _ x (by simp [Op.operands])]<;>first | exact ⟨rfl,rfl⟩ | trivial
  | build t ps=>
    have:=fun ty=>uJ (T:=T) h ty ps.toList (fun p hp=>by simp only [Op.operands,Array.toList_map,List.mem_map];exact ⟨p,hp,rfl⟩)
    simp only [aop,bB,this]<;>first | exact ⟨rfl,rfl⟩ | trivial
  | buildSlice t n ps=>
    have:=fun ty=>uJ (T:=T) h ty ps.toList (fun p hp=>by simp only [Op.operands,Array.toList_map,List.mem_map];exact ⟨p,hp,rfl⟩)
    simp only [aop,bB,this]
    exact ⟨trivial,trivial⟩
  | load t x=>simp only [aop,bB,fG,E _ x (by simp [Op.operands])]<;>first | exact ⟨rfl,rfl⟩ | trivial
  | store t x y=>simp only [aop,bB,fG,E _ x (by simp [Op.operands]),E _ y (by simp [Op.operands])]<;>first | exact ⟨rfl,rfl⟩ | trivial
  | nilCheck x=>simp only [aop,bB,fG,E _ x (by simp [Op.operands])]<;>first | exact ⟨rfl,rfl⟩ | trivial
  | binOp op t x y z=>simp only [aop,bB,fG,E _ x (by simp [Op.operands]),E _ y (by simp [Op.operands])]<;>first | exact ⟨rfl,rfl⟩ | trivial
  | unOp op t x=>simp only [aop,bB,fG,E _ x (by simp [Op.operands])]<;>first | exact ⟨rfl,rfl⟩ | trivial
  | convert s d x=>simp only [aop,bB,fG,E _ x (by simp [Op.operands])]<;>first | exact ⟨rfl,rfl⟩ | trivial
  | makeSlice t x y=>simp only [aop,bB,fG,E _ x (by simp [Op.operands]),E _ y (by simp [Op.operands])]<;>first | exact ⟨rfl,rfl⟩ | trivial
  | makeMap t r=>exact ⟨rfl,rfl⟩
  | lookup t m x ok=>simp only [aop,bB,fG,E _ m (by simp [Op.operands]),E _ x (by simp [Op.operands])]<;>first | exact ⟨rfl,rfl⟩ | trivial
  | mapEntry t m x=>simp only [aop,bB,fG,E _ m (by simp [Op.operands]),E _ x (by simp [Op.operands])]<;>first | exact ⟨rfl,rfl⟩ | trivial
  | entryStore t m n x=>simp only [aop,bB,fG,E _ m (by simp [Op.operands]),E _ n (by simp [Op.operands]),E _ x (by simp [Op.operands])]<;>first | exact ⟨rfl,rfl⟩ | trivial
  | slice t x lo hi mx=>
    have e1:=E t x (by simp [Op.operands])
    have e2:∀l,lo=some l→iV T env' 0 l=iV T env 0 l:=fun l hl=>E _ l (by subst hl;simp [Op.operands])
    have e3:∀l,hi=some l→iV T env' 0 l=iV T env 0 l:=fun l hl=>E _ l (by subst hl;simp [Op.operands])
    have e4:∀l,mx=some l→iV T env' 0 l=iV T env 0 l:=fun l hl=>E _ l (by subst hl;simp [Op.operands])
    simp only [aop,bB,fG,e1]
    refine ⟨?_,trivial⟩
    cases lo<;>cases hi<;>cases mx<;>simp [e2,e3,e4]
  | fieldAddr s x f=>simp only [aop,bB,fG,E _ x (by simp [Op.operands])]<;>first | exact ⟨rfl,rfl⟩ | trivial
  | field s x f=>simp only [aop,bB,fG,E _ x (by simp [Op.operands])]<;>first | exact ⟨rfl,rfl⟩ | trivial
  | indexAddr t x y=>simp only [aop,bB,fG,E _ x (by simp [Op.operands]),E _ y (by simp [Op.operands])]<;>first | exact ⟨rfl,rfl⟩ | trivial
  | index t x y=>simp only [aop,bB,fG,E _ x (by simp [Op.operands]),E _ y (by simp [Op.operands])]<;>first | exact ⟨rfl,rfl⟩ | trivial
  | extract x i=>simp only [aop,bB,fG,E _ x (by simp [Op.operands])]<;>first | exact ⟨rfl,rfl⟩ | trivial
  | call c=>
    have e0:∀a∈c.args.toList,a∈(Op.call c).operands.toList:=fun a ha=>by simp only [Op.operands,Call.operands];simp;exact .inr (by simpa using ha)
    have e1:=JD (T:=T) h c.args.toList c.argTypes.toList e0
    simp only [aop,bB,e1]
    refine ⟨?_,trivial⟩
    cases hc:c.callee with
    | builtin b=>
      cases b<;>try rfl
      ·clear e1
       revert e0
       generalize c.args.toList=A
       generalize c.argTypes.toList=B
       intro e0
       rcases A with _ | ⟨x,_ | ⟨y,_ | ⟨z,A⟩⟩⟩<;>rcases B with _ | ⟨t1,_ | ⟨t2,_ | ⟨t3,B⟩⟩⟩<;>try rfl
       dsimp only
       rw [E t1 x (e0 x (by simp)),E t2 y (e0 y (by simp))]
      ·clear e1
       revert e0
       generalize c.args.toList=A
       generalize c.argTypes.toList=B
       intro e0
       rcases A with _ | ⟨x,_ | ⟨y,_ | ⟨z,A⟩⟩⟩<;>rcases B with _ | ⟨t1,_ | ⟨t2,_ | ⟨t3,B⟩⟩⟩<;>try rfl
       dsimp only
       rw [E t1 x (e0 x (by simp)),E t2 y (e0 y (by simp))]
      ·clear e1
       revert e0
       generalize c.args.toList=A
       generalize c.argTypes.toList=B
       intro e0
       rcases A with _ | ⟨x,_ | ⟨y,A⟩⟩<;>rcases B with _ | ⟨t1,_ | ⟨t2,B⟩⟩<;>try rfl
       dsimp only
       rw [E t1 x (e0 x (by simp))]
    | value f=>cases f<;>rfl
    | invoke r m=>rfl
  | _=>exact ⟨rfl,rfl⟩
end
end Km
namespace Km
open Go
variable {κ:Type} {Ty:κ→Type} {R α:Type}
section
variable {C:Cod κ Ty} {T:TypeId→Option (TI κ Ty)} {Γ:FuncId→Option (bU κ Ty)} {objs objs':aH κ Ty} {env env':Env κ Ty}
def Like (l:List Nat) (objs objs':aH κ Ty):Prop:=∀id∈l,objs'[id]? =objs[id]?
theorem Like.sub {l m:List Nat} (h:Like l objs objs') (hm:∀i∈m,i∈l):Like m objs objs':=fun id hi=>h id (hm id hi)
theorem lP {id:Nat} (h:objs'[id]? =objs[id]?):mX objs' id=mX objs id:=by unfold mX;rw [h]
theorem ED {id:Nat} (h:objs'[id]? =objs[id]?):m9 objs' id=m9 objs id:=by unfold m9;rw [h]
theorem RS {v:AV κ Ty} {i:Nat} (h:i∈kV v):i∈cU v:=by cases v<;>first | exact h | (simp [kV] at h)
theorem JF {v:AV κ Ty} (h:Like (kV v) objs objs'):tO objs' v=tO objs v:=by
  cases v with
  | own id=>simp only [tO];exact lP (h id (by simp [kV]))
  | sub id lo hi=>simp only [tO];rw [lP (h id (by simp [kV]))]
  | _=>rfl
theorem a9_ {id:Nat} (h:objs'[id]? =objs[id]?):yK objs' id=yK objs id:=by unfold yK;rw [h]
theorem N9 {id:Nat} (h:objs'[id]? =objs[id]?):kY objs' id=kY objs id:=by unfold kY;rw [h]
theorem M2 {v:AV κ Ty} (h:Like (kV v) objs objs'):JQ objs' v=JQ objs v:=by
  cases v with
  | rwv id=>simp only [JQ];rw [h id (by simp [kV])]
  | xr id g i j t xs=>simp only [JQ];rw [h id (by simp [kV])]
  | _=>exact JF h
theorem IJ {v:AV κ Ty} (h:Like (cU v) objs objs'):nY objs' v=nY objs v:=by
  cases v with
  | ref id off=>simp only [nY];rw [ED (h id (by simp [cU,rO,kV]))]
  | eref id i off=>simp only [nY];rw [lP (h id (by simp [cU,rO,kV]))]
  | rwp id i off=>simp only [nY];rw [a9_ (h id (by simp [cU,rO,kV]))]
  | _=>rfl
theorem ae_ {ti:TI κ Ty} {v:AV κ Ty} (h:Like (cU v) objs objs') (K:AV κ Ty→Option R):GC C objs' ti v K=GC C objs ti v K:=by
  cases v with
  | ref id off=>simp only [GC];rw [ED (h id (by simp [cU,rO,kV]))]
  | eref id i off=>simp only [GC];rw [lP (h id (by simp [cU,rO,kV]))]
  | rwp id i off=>simp only [GC];rw [h id (by simp [cU,rO,kV])]
  | _=>rfl
theorem VT {t:TypeId} {v:AV κ Ty} (h:Like (cU v) objs objs') (K:AV κ Ty→Option R):BQ C T objs' t v K=BQ C T objs t v K:=by
  unfold BQ
  split
  ·rfl
  ·split
   ·exact ae_ h K
   ·rfl
theorem KE {shp:Shp κ} {x i:AV κ Ty} (h:Like (cU x) objs objs') (K:AV κ Ty→Option R):kF C objs' shp x i K=kF C objs shp x i K:=by
  unfold kF
  split
  ·split
   ·split
    ·rename_i id;rw [lP (h id (by simp [cU,rO,kV]))]
    ·rfl
    ·rename_i id;rw [N9 (h id (by simp [cU,rO,kV]))]
    ·rename_i id lo hi;rw [lP (h id (by simp [cU,rO,kV]))]
    ·rfl
   ·split
    ·rename_i id;rw [lP (h id (by simp [cU,rO,kV]))]
    ·rename_i id off;rw [ED (h id (by simp [cU,rO,kV]))]
    ·rfl
   ·rfl
  ·rfl
theorem W5 {shp:Shp κ} {x:AV κ Ty} {lo hi:Option Int} (h:Like (cU x) objs objs') (K:AV κ Ty→Option R):C4 C objs' shp x lo hi K=C4 C objs shp x lo hi K:=by
  unfold C4
  split
  ·rfl
  ·split
   ·rename_i id;rw [lP (h id (by simp [cU,rO,kV]))]
   ·rfl
   ·rfl
   ·rfl
  ·split
   ·rename_i id;rw [lP (h id (by simp [cU,rO,kV]))]
   ·rfl
  ·rfl
theorem RY {shp:Shp κ} {x:AV κ Ty} {a b:Int} (h:Like (cU x) objs objs') (K:AV κ Ty→Option R):uI C objs' shp x a b K=uI C objs shp x a b K:=by
  unfold uI
  split
  ·split
   ·rename_i id;rw [lP (h id (by simp [cU,rO,kV]))]
   ·rfl
  ·rfl
theorem ZG {shp:Shp κ} {v:AV κ Ty} (h:Like (cU v) objs objs'):lenOf objs' shp v=lenOf objs shp v:=by
  unfold lenOf
  split
  ·rfl
  ·split
   ·rename_i id;rw [N9 (h id (by simp [cU,rO,kV]))]
   ·rw [M2 (h.sub fun i hi=>RS hi)]
  ·rfl
theorem QS {m:G7} {v:AV κ Ty} (h:Like (kV v) objs objs'):MD C objs' m v=MD C objs m v:=by
  cases m<;>simp only [MD]<;>rw [M2 h]
theorem M4 {m:G7} {v:AV κ Ty} (h:Like (cU v) objs objs'):A6 C objs' m v=A6 C objs m v:=by
  by_cases hv:∃cs,v= .agg cs
  ·obtain ⟨cs,rfl⟩:=hv
   simp only [A6,AV.agg.injEq]
   exact List.map_congr_left fun c hc=>QS (h.sub fun i hi=>by simp only [cU,rO,List.mem_flatMap];exact ⟨c,hc,hi⟩)
  ·have e:∀objs:aH κ Ty,A6 C objs m v=MD C objs m v:=fun objs=>by cases v<;>first | rfl | exact absurd ⟨_,rfl⟩ hv
   rw [e,e];exact QS (h.sub fun i hi=>RS hi)
theorem DS:∀{vs:List (AV κ Ty)} (ms:List G7),Like (vs.flatMap cU) objs objs'→mW C objs' vs ms=mW C objs vs ms
  | [],ms,_=>by cases ms<;>rfl
  | v::vs,m::ms,h=>by
    simp only [mW]
    rw [M4 (h.sub fun i hi=>by simp [hi]),DS ms (h.sub fun i hi=>by simp only [List.flatMap_cons,List.mem_append];exact .inr hi)]
  | v::vs,[],h=>by
    simp only [mW]
    rw [M4 (h.sub fun i hi=>by simp [hi]),DS [] (h.sub fun i hi=>by simp only [List.flatMap_cons,List.mem_append];exact .inr hi)]
def Keeps (l:List Nat) (objs objs1:aH κ Ty):Prop:=objs.length≤objs1.length∧∀id,id∉l→id<objs.length→objs1[id]? =objs[id]?
theorem Keeps.refl (l:List Nat):Keeps l objs objs:=⟨Nat.le_refl _,fun _ _ _=>rfl⟩
theorem Keeps.trans {l m:List Nat} {o1 o2:aH κ Ty} (h:Keeps l objs o1) (h':Keeps m o1 o2):Keeps (l++m) objs o2:=
  ⟨Nat.le_trans h.1 h'.1,fun id hn hi=>by simp at hn;rw [h'.2 id hn.2 (by have:=h.1;omega),h.2 id hn.1 hi]⟩
theorem Keeps.sub {l m:List Nat} {o1:aH κ Ty} (h:Keeps l objs o1) (hm:∀i∈l,i∈m):Keeps m objs o1:=⟨h.1,fun id hn hi=>h.2 id (fun h'=>hn (hm id h')) hi⟩
theorem Keeps.set {l:List Nat} {id:Nat} (h:id∈l) (o:AObj κ Ty):Keeps l objs (objs.set id o):=⟨by simp,fun k hk _=>List.getElem?_set_ne (fun e=>hk (by rw [←e];exact h))⟩
theorem Keeps.push {l:List Nat} {o1:aH κ Ty} (h:Keeps l objs o1) (os:List (AObj κ Ty)):Keeps l objs (o1++os):=
  ⟨by have:=h.1;simp;omega,fun id hn hi=>by rw [List.getElem?_append_left (by have:=h.1;omega)];exact h.2 id hn hi⟩
theorem iD {b0:Bool}:∀{ns:List (AV κ Ty)} {objs:aH κ Ty} {K:List (AV κ Ty)→aH κ Ty→Option R} {r:R},jK C b0 objs ns K=some r→∃ns' o1,K ns' o1=some r∧Keeps (ns.flatMap kV) objs o1
  | [],objs,K,r,h=>⟨_,_,h, .refl _⟩
  | c::cs,objs,K,r,h=>by
    simp only [jK] at h
    split at h
    ·rename_i id
     split at h
     ·split at h
      ·obtain ⟨ns',o1,h1,h2⟩:=iD h
       exact ⟨_,o1,h1,((Keeps.set (l:=[id]) (by simp) _).trans h2).sub (by simp [kV])⟩
      ·cases h
     ·cases h
    ·split at h
     ·obtain ⟨ns',o1,h1,h2⟩:=iD h
      exact ⟨_,o1,h1,h2.sub (by simp [kV])⟩
     ·cases h
    ·obtain ⟨ns',o1,h1,h2⟩:=iD h
     exact ⟨_,o1,h1,h2.sub (by simp [kV])⟩
    ·obtain ⟨ns',o1,h1,h2⟩:=iD h
     exact ⟨_,o1,h1,h2.sub (by simp [kV])⟩
    ·cases h
theorem uW {x:AV κ Ty} {ns:List (AV κ Ty)} (h:cellsOf x=some ns):∀i∈ns.flatMap kV,i∈cU x:=by
  cases x<;>simp only [cellsOf,Option.some.injEq,reduceCtorEq] at h<;>subst h<;>intro i hi<;>first | (simp [kV] at hi;done) | (simpa [cU,rO] using hi)
theorem RV {ti:TI κ Ty} {a x:AV κ Ty} {K:aH κ Ty→Option R} {r:R} (h:FR C objs ti a x K=some r):∃o1,K o1=some r∧Keeps (cU a++cU x) objs o1:=by
  unfold FR at h
  split at h
  ·cases h
  ·rename_i ns hns
   split at h
   ·cases h
   ·split at h
    ·split at h
     ·split at h
      ·exact ⟨_,h, .set (by simp [cU,rO,kV]) _⟩
      ·cases h
     ·cases h
    ·rename_i id i off
     split at h
     ·obtain ⟨z,_,h⟩:=bind_some h
      obtain ⟨ns',o1,h,hk⟩:=iD h
      split at h
      ·split at h
       ·split at h
        ·refine ⟨_,h, ?_⟩
         refine (hk.trans (Keeps.set (l:=[id]) (by simp) _)).sub ?_
         intro j hj
         simp only [List.mem_append] at hj⊢
         rcases hj with hj | hj
         ·exact .inr (uW hns j hj)
         ·exact .inl (by simpa [cU,rO,kV] using hj)
        ·cases h
       ·cases h
      ·cases h
     ·cases h
    ·rename_i id i off
     split at h
     ·split at h
      ·obtain ⟨z,_,h⟩:=bind_some h
       obtain ⟨ns',o1,h,hk⟩:=iD h
       split at h
       ·split at h
        ·refine ⟨_,h, ?_⟩
         refine (hk.trans (Keeps.set (l:=[id]) (by simp) _)).sub ?_
         intro j hj
         simp only [List.mem_append] at hj⊢
         rcases hj with hj | hj
         ·exact .inr (uW hns j hj)
         ·exact .inl (by simpa [cU,rO,kV] using hj)
        ·cases h
       ·cases h
      ·obtain ⟨z,_,h⟩:=bind_some h
       obtain ⟨ns',o1,h,hk⟩:=iD h
       split at h
       ·split at h
        ·refine ⟨_,h, ?_⟩
         refine (hk.trans (Keeps.set (l:=[id]) (by simp) _)).sub ?_
         intro j hj
         simp only [List.mem_append] at hj⊢
         rcases hj with hj | hj
         ·exact .inr (uW hns j hj)
         ·exact .inl (by simpa [cU,rO,kV] using hj)
        ·cases h
       ·cases h
      ·cases h
     ·cases h
    ·cases h
theorem J9 {t:κ}:∀{ps:List (Nat×AV κ Ty)} {n:Nat} {objs:aH κ Ty} {K:List (Ty t)→aH κ Ty→Option R} {r:R},G0 C t objs n ps K=some r→∃ys o1,K ys o1=some r∧Keeps (ps.flatMap fun p=>cU p.2) objs o1
  | [],n,objs,K,r,h=>⟨_,_,h, .refl _⟩
  | (i,v)::ps,n,objs,K,r,h=>by
    simp only [G0] at h
    split at h
    ·cases h
    ·split at h
     ·cases h
     ·rename_i ns hns
      split at h
      ·cases h
      ·obtain ⟨ns',o1,h,hk⟩:=iD h
       split at h
       ·obtain ⟨ys,o2,h,hk'⟩:=J9 h
        refine ⟨_,o2,h,(hk.trans hk').sub fun i hi=> ?_⟩
        simp only [List.mem_append,List.flatMap_cons] at hi⊢
        exact hi.imp (uW hns i) id
       ·cases h
theorem PO {s1:κ} {x y:AV κ Ty} {K:AV κ Ty→aH κ Ty→Option R} {r:R} (h:wP C objs s1 x y K=some r):∃v o1,K v o1=some r∧Keeps (cU x) objs o1:=by
  unfold wP at h
  split at h
  ·cases h
  ·obtain ⟨ys,_,h⟩:=bind_some h
   split at h
   ·obtain ⟨zs,_,h⟩:=bind_some h
    split at h<;>exact ⟨_,_,h,(Keeps.refl _).push _⟩
   ·split at h
    ·obtain ⟨_,_,h⟩:=bind_some h
     obtain ⟨zs,_,h⟩:=bind_some h
     exact ⟨_,_,h,(Keeps.set (by simp [cU,rO,kV]) _).push _⟩
    ·cases h
   ·split at h
    ·obtain ⟨_,_,h⟩:=bind_some h
     obtain ⟨zs,_,h⟩:=bind_some h
     exact ⟨_,_,h,(Keeps.set (by simp [cU,rO,kV]) _).push _⟩
    ·cases h
   ·cases h
theorem MC {s1:κ} {x y:AV κ Ty} {K:AV κ Ty→aH κ Ty→Option R} {r:R} (h:sT C objs s1 x y K=some r):∃v o1,K v o1=some r∧Keeps (cU x) objs o1:=by
  unfold sT at h
  split at h
  ·split at h
   ·obtain ⟨ys,_,h⟩:=bind_some h
    split at h
    ·split at h
     ·obtain ⟨_,_,h⟩:=bind_some h
      obtain ⟨zs,_,h⟩:=bind_some h
      exact ⟨_,_,h,(Keeps.set (by simp [cU,rO,kV]) _).push _⟩
     ·cases h
    ·cases h
   ·cases h
  ·cases h
theorem WC {s1:κ} {x y:AV κ Ty} {K:AV κ Ty→aH κ Ty→Option R} {r:R} (h:TH C objs s1 x y K=some r):∃v o1,K v o1=some r∧Keeps (cU x++cU y) objs o1:=by
  unfold TH at h
  split at h
  ·cases h
  ·split at h
   ·split at h
    ·split at h
     ·obtain ⟨_,_,h⟩:=bind_some h
      exact ⟨_,_,h,Keeps.set (by simp [cU,rO,kV]) _⟩
     ·cases h
    ·cases h
   ·split at h
    ·split at h
     ·obtain ⟨_,_,h⟩:=bind_some h
      exact ⟨_,_,h,Keeps.set (by simp [cU,rO,kV]) _⟩
     ·cases h
    ·cases h
   ·cases h
theorem E0 (id:Nat) (objs:aH κ Ty):Keeps (vN objs [id]) objs (zU C id objs):=by
  unfold zU
  split
  ·rename_i k v es i j hid
   split
   ·split
    ·exact .refl _
    ·split
     ·refine ⟨by simp,fun q hq _=> ?_⟩
      simp only [vN,List.flatMap_cons,List.flatMap_nil,hid,VG,List.append_nil,List.mem_append,List.mem_singleton,not_or] at hq
      rw [List.getElem?_set_ne (Ne.symm hq.1),List.getElem?_set_ne (Ne.symm hq.2)]
     ·exact .refl _
   ·exact .refl _
  ·exact .refl _
theorem XE {shp:Shp κ} {m key:AV κ Ty} {K:Nat→(k v:κ)→List (Ty k×Ty v)→Ty k→Option R} {r:R} (h:aU_ C objs shp m key K=some r):∃id k v es x,m= .mapv id∧K id k v es x=some r:=by
  unfold aU_ at h
  split at h
  ·split at h
   ·split at h
    ·split at h
     ·split at h
      ·exact ⟨_,_,_,_,_,rfl,h⟩
      ·cases h
     ·cases h
    ·cases h
   ·cases h
  ·cases h
theorem UG {α:Type} {o:Option α} {K0:Option R} {K1:α→Option R} {r:R} (h:optK o K0 K1=some r):K0=some r∨∃a,K1 a=some r:=by
  cases o with
  | none=>exact .inl h
  | some a=>exact .inr ⟨a,h⟩
theorem NR {id:Nat} {k v:κ} {es:List (Ty k×Ty v)} {p:Nat×Ty v} {K:AV κ Ty→aH κ Ty→Option R} {r:R} (h:dm_ C objs id k v es p K=some r):∃x o1,K x o1=some r∧Keeps [id] objs o1:=by
  unfold dm_ at h
  split at h
  ·exact ⟨_,_,h, .refl _⟩
  ·exact ⟨_,_,h,(Keeps.set (by simp) _).push _⟩
  ·cases h
theorem K9 {objs:aH κ Ty} {l:List Nat} {i:Nat} (h:i∈l):i∈vN objs l:=by simp [vN,h]
theorem MQ {shp:Shp κ} {m key:AV κ Ty} {s:κ} {K:AV κ Ty→aH κ Ty→Option R} {r:R} (h:rV C objs shp m key s K=some r):∃x o1,K x o1=some r∧Keeps (vN objs (cU m)) objs o1:=by
  unfold rV at h
  dsimp only at h
  obtain ⟨id,k,v,es,x,rfl,h⟩:=XE h
  have hs:=E0 (C:=C) id objs
  rcases UG h with h | ⟨p,h⟩
  ·exact ⟨_,_,h,hs⟩
  ·obtain ⟨y,o1,h1,h2⟩:=NR h
   exact ⟨y,o1,h1,(hs.trans h2).sub fun q hq=>by
     simp only [List.mem_append,List.mem_singleton] at hq
     rcases hq with hq | rfl
     ·exact hq
     ·exact K9 (by simp [cU,rO,kV])⟩
theorem J6 {shp:Shp κ} {m key:AV κ Ty} {te:TI κ Ty} {K:AV κ Ty→aH κ Ty→Option R} {r:R} (h:oY C objs shp m key te K=some r):∃x o1,K x o1=some r∧Keeps (vN objs (cU m)) objs o1:=by
  unfold oY at h
  dsimp only at h
  obtain ⟨id,k,v,es,x,rfl,h⟩:=XE h
  have hs:=E0 (C:=C) id objs
  have hsub:∀q∈vN objs [id]++[id],q∈vN objs (cU (AV.mapv (κ:=κ) (Ty:=Ty) id)):=fun q hq=>by
    simp only [List.mem_append,List.mem_singleton] at hq
    rcases hq with hq | rfl
    ·exact hq
    ·exact K9 (by simp [cU,rO,kV])
  rcases UG h with h | ⟨p,h⟩
  ·split at h
   ·exact ⟨_,_,h,(hs.trans (Keeps.set (l:=[id]) (by simp [UX]) _)).sub hsub⟩
   ·cases h
  ·obtain ⟨y,o1,h1,h2⟩:=NR h
   exact ⟨_,o1,h1,(hs.trans h2).sub hsub⟩
theorem WP {v:κ} {x:AV κ Ty} {K:Ty v→aH κ Ty→Option R} {r:R} (h:LZ C objs v x K=some r):∃y o1,K y o1=some r∧Keeps (cU x) objs o1:=by
  unfold LZ at h
  split at h
  ·split at h
   ·exact ⟨_,_,h, .refl _⟩
   ·cases h
  ·split at h
   ·split at h
    ·exact ⟨_,_,h,Keeps.set (by simp [cU,rO,kV]) _⟩
    ·cases h
   ·cases h
  ·cases h
theorem EN {shp:Shp κ} {m n x:AV κ Ty} {K:aH κ Ty→Option R} {r:R} (h:iI C objs shp m n x K=some r):∃o1,K o1=some r∧Keeps (cU m++cU x) objs o1:=by
  unfold iI at h
  split at h
  ·rename_i id kk q
   split at h
   ·split at h
    ·have key:∀{k' v':κ} {es:List (Ty k'×Ty v')},((idx es q).bind fun e=>LZ C objs v' x fun y objs=>K (objs.set id (.mp k' v' (es.set q.toNat (e.1,y)) none)))=some r→∃o1,K o1=some r∧Keeps (cU (AV.mapv (κ:=κ) (Ty:=Ty) id)++cU x) objs o1:=fun h=>by
       obtain ⟨e,_,h⟩:=bind_some h
       obtain ⟨y,o1,h1,h2⟩:=WP h
       exact ⟨_,h1,(h2.trans (Keeps.set (l:=cU (AV.mapv (κ:=κ) (Ty:=Ty) id)) (by simp [cU,rO,kV]) _)).sub fun q hq=>by
         simp only [List.mem_append] at hq⊢;exact hq.symm⟩
     split at h
     ·exact key h
     ·split at h
      ·exact key h
      ·cases h
    ·cases h
   ·cases h
  ·cases h
theorem O4 {shp:Shp κ} {m key:AV κ Ty} {z:Value} (h:Like (cU m) objs objs') (K:AV κ Ty→Option R):qG C objs' shp m key z K=qG C objs shp m key z K:=by
  unfold qG aU_
  split
  ·rename_i id
   rw [h id (by simp [cU,rO,kV])]
  ·rfl
theorem VO {S:bU κ Ty} {bs:List Nat} {args:List (AV κ Ty)} {K:AV κ Ty→aH κ Ty→Option R} {r:R} (h:JB objs S bs args K=some r):
    ∃v o1,K v o1=some r∧Keeps (yQ objs (E3 [] (args.flatMap cU))) objs o1:=by
  unfold JB at h
  dsimp only at h
  split at h
  ·cases h
  ·obtain ⟨q,_,h⟩:=bind_some h
   refine ⟨_,_,h,Keeps.push ⟨by rw [dH];exact Nat.le_refl _,fun id hn hi=>C9 _ _ _ _ _ hn⟩ _⟩
theorem qU:∀(cs:List (AV κ Ty)) (objs:aH κ Ty),Keeps (cs.flatMap kV) objs (mV C objs cs).2
  | [],objs=> .refl _
  | c::cs,objs=>by
    have same:=(qU cs objs).sub (m:=(c::cs).flatMap kV) fun i hi=>by simp only [List.flatMap_cons,List.mem_append];exact .inr hi
    simp only [mV]
    split
    ·rename_i id
     split
     ·refine ((Keeps.set (l:=[id]) (by simp) _).trans (qU cs _)).sub fun i hi=> ?_
      simpa [kV] using hi
     ·exact same
    ·rename_i id
     split
     ·split
      ·refine ((Keeps.set (l:=[id]) (by simp) _).trans (qU cs _)).sub fun i hi=> ?_
       simpa [kV] using hi
      ·exact same
     ·exact same
    ·exact same
theorem SL:∀(cs:List (AV κ Ty)) (objs:aH κ Ty),(mV C objs cs).1.length=cs.length
  | [],objs=>rfl
  | c::cs,objs=>by
    have h:=SL cs
    simp only [mV]
    split<;>(repeat' split)<;>simp [h]
theorem D4:∀(cs:List (AV κ Ty)) (objs:aH κ Ty),cs.flatMap kV=[]→mV C objs cs=(cs,objs)
  | [],objs,_=>rfl
  | c::cs,objs,h=>by
    simp only [List.flatMap_cons,List.append_eq_nil_iff] at h
    have hc:=D4 cs objs h.2
    simp only [mV]
    split
    ·have:=h.1;simp [kV] at this
    ·have:=h.1;simp [kV] at this
    ·rw [hc]
theorem FS (x:AV κ Ty) (objs:aH κ Ty) (hv:¬∃cs,x= .agg cs):LR C objs x=(match mV C objs [x] with | ([v],o)=>(v,o) | _=>(x,objs)):=by cases x<;>first | rfl | exact absurd ⟨_,rfl⟩ hv
theorem UQ (x:AV κ Ty) (objs:aH κ Ty):Keeps (cU x) objs (LR C objs x).2:=by
  by_cases hv:∃cs,x= .agg cs
  ·obtain ⟨cs,rfl⟩:=hv
   exact (qU cs objs).sub fun i hi=>by simpa [cU,rO] using hi
  ·rw [FS x objs hv]
   have h1:=qU (C:=C) [x] objs
   have h2:=SL (C:=C) [x] objs
   generalize mV C objs [x]=p at h1 h2
   obtain ⟨vs,o⟩:=p
   match vs,h2 with
   | [v],_=>exact h1.sub fun i hi=>RS (by simpa using hi)
theorem ZT (x:AV κ Ty) (objs:aH κ Ty) (h:cU x=[]):LR C objs x=(x,objs):=by
  by_cases hv:∃cs,x= .agg cs
  ·obtain ⟨cs,rfl⟩:=hv
   simp only [LR]
   rw [D4 cs objs (by simpa [cU,rO] using h)]
  ·rw [FS x objs hv,D4 [x] objs (by
    simp only [List.flatMap_cons,List.flatMap_nil,List.append_nil]
    exact List.eq_nil_iff_forall_not_mem.mpr fun i hi=>by have:=RS hi;rw [h] at this;simp at this)]
theorem mE:∀(xs:List (AV κ Ty)) (ms:List G7) (objs:aH κ Ty),Keeps (z6 xs ms) objs (pU C objs xs ms).2
  | [],ms,objs=>by cases ms<;>exact .refl _
  | x::xs,[],objs=> .refl _
  | x::xs,m::ms,objs=>by
    simp only [pU,z6]
    split
    ·rename_i id g i j t ys
     split
     ·split
      ·refine (((Keeps.set (l:=[id]) (by simp) _).push _).trans (mE xs ms _)).sub fun i hi=> ?_
       simpa using hi
      ·exact (mE xs ms objs).sub fun i hi=>List.mem_cons_of_mem _ hi
     ·exact (mE xs ms objs).sub fun i hi=>List.mem_cons_of_mem _ hi
    ·exact (UQ x objs).trans (mE xs ms _)
    ·rename_i h2 h1
     cases m
     case mv=>cases x<;>first | exact mE xs ms objs | exact (h1 _ _ _ _ _ _ rfl rfl).elim
     case gv=>exact (h2 rfl).elim
     all_goals exact mE xs ms objs
theorem VY {m id:Nat} {K:aH κ Ty→Option R} {r:R} (h:R6 C m id objs K=some r):∃o1,K o1=some r∧objs.length≤o1.length∧∀q,q≠id→q<m→o1[q]? =objs[q]? :=by
  unfold R6 at h
  split at h
  ·split at h
   ·split at h
    ·cases h
    ·rename_i hc
     simp only [Bool.or_eq_false_iff,Bool.not_eq_false',Bool.and_eq_true] at hc
     have hm:=Nat.le_of_ble_eq_true hc.2.2
     obtain ⟨x,_,h⟩:=bind_some h
     split at h
     ·refine ⟨_,h,by simp,fun q h1 h2=> ?_⟩
      rw [List.getElem?_set_ne (Ne.symm h1),List.getElem?_set_ne (by omega)]
     ·cases h
   ·cases h
  ·exact ⟨_,h,Nat.le_refl _,fun _ _ _=>rfl⟩
theorem E9 {m:Nat} {K:aH κ Ty→Option R} {r:R}:∀{l:List Nat} {objs:aH κ Ty},xQ C m l objs K=some r→∃o1,K o1=some r∧objs.length≤o1.length∧∀q,q∉l→q<m→o1[q]? =objs[q]?
  | [],objs,h=>⟨_,h,Nat.le_refl _,fun _ _ _=>rfl⟩
  | n::l,objs,h=>by
    simp only [xQ] at h
    obtain ⟨o1,h1,h2,h3⟩:=VY h
    obtain ⟨o2,g1,g2,g3⟩:=E9 h1
    refine ⟨o2,g1,by omega,fun q hq hm=> ?_⟩
    simp only [List.mem_cons,not_or] at hq
    rw [g3 q hq.2 hm,h3 q hq.1 hm]
theorem I0:∀{xs:List (AV κ Ty)} {ms:List G7} {objs:aH κ Ty},(mW C objs xs ms).flatMap cU=[]→z6 xs ms=[]∧∀objs':aH κ Ty,pU C objs' xs ms=(xs,objs')
  | [],ms,objs,h=>by cases ms<;>exact ⟨rfl,fun _=>rfl⟩
  | x::xs,[],objs,h=>⟨rfl,fun _=>rfl⟩
  | x::xs,m::ms,objs,h=>by
    simp only [mW,List.flatMap_cons,List.append_eq_nil_iff] at h
    obtain ⟨h1,h2⟩:=I0 h.2
    simp only [z6,pU]
    split
    ·have:=h.1
     simp [A6,MD,cU,rO,kV] at this
    ·have hx:cU x=[]:=by
       have:=h.1
       by_cases hv:∃cs,x= .agg cs
       ·obtain ⟨cs,rfl⟩:=hv
        have e:(cs.map (MD C objs .gv))=cs:=List.map_congr_left (fun c _=>rfl) |>.trans (List.map_id _)
        simpa [A6,e] using this
       ·have e:A6 C objs .gv x=x:=by cases x<;>first | rfl | exact absurd ⟨_,rfl⟩ hv
        rw [e] at this;exact this
     exact ⟨by rw [hx,h1];rfl,fun objs'=>by rw [ZT x objs' hx];dsimp only;rw [h2]⟩
    ·rename_i g2 g1
     refine ⟨?_,fun objs'=> ?_⟩
     ·cases m
      case mv=>cases x<;>first | exact h1 | exact (g1 _ _ _ _ _ _ rfl rfl).elim
      case gv=>exact (g2 rfl).elim
      all_goals exact h1
     ·cases m
      case mv=>cases x<;>first | (rw [h2];done) | (simp only [h2];done) | exact (g1 _ _ _ _ _ _ rfl rfl).elim
      case gv=>exact (g2 rfl).elim
      all_goals simp only [h2]
theorem SC {g g':Nat→Option Nat} {v:AV κ Ty} (h:kV v=[]):yC g v=yC g' v:=by cases v<;>first | rfl | (simp [kV] at h)
theorem SM {g g':Nat→Option Nat} {v:AV κ Ty} (h:rO v=[]):cx_ g v=cx_ g' v:=by
  by_cases hv:∃cs,v= .agg cs
  ·obtain ⟨cs,rfl⟩:=hv
   simp only [cx_,AV.agg.injEq]
   exact List.map_congr_left fun c hc=>SC (by simp only [rO,List.flatMap_eq_nil_iff] at h;exact h c hc)
  ·have e:∀g,cx_ g v=yC g v:=fun g=>by cases v<;>first | rfl | exact absurd ⟨_,rfl⟩ hv
   rw [e,e];exact SC (by cases v<;>first | exact h | exact absurd ⟨_,rfl⟩ hv)
theorem a7_ {g g':Nat→Option Nat} {v:AV κ Ty} (h:cU v=[]):HW g v=HW g' v:=by
  by_cases hv:∃vs,v= .tup vs
  ·obtain ⟨vs,rfl⟩:=hv
   simp only [HW,AV.tup.injEq]
   exact List.map_congr_left fun c hc=>SM (by simp only [cU,List.flatMap_eq_nil_iff] at h;exact h c hc)
  ·have e:∀g,HW g v=cx_ g v:=fun g=>by cases v<;>first | rfl | exact absurd ⟨_,rfl⟩ hv
   rw [e,e];exact SM (by cases v<;>first | exact h | exact absurd ⟨_,rfl⟩ hv)
theorem isNil_iff {α:Type} {l:List α}:WB l=true↔l=[]:=by cases l<;>simp [WB]
def QuietOk (Γ:FuncId→Option (bU κ Ty)):Prop:=∀f S,Γ f=some S→S.quiet=true→∀r,(S.ret r).2=[]∧cU (S.ret r).1=[]
theorem XA {S:bU κ Ty} {bs:List Nat} {args:List (AV κ Ty)} (hS:∀r,(S.ret r).2=[]∧cU (S.ret r).1=[]) (ha:args.flatMap cU=[]) {v:AV κ Ty} {o1:aH κ Ty}
    (h:(JB objs S bs args fun a b=>some (a,b))=some (v,o1)):o1=objs∧∀objs':aH κ Ty,(JB objs' S bs args fun a b=>some (a,b))=some (v,objs'):=by
  have hl:∀objs:aH κ Ty,yQ objs (E3 [] (args.flatMap cU))=[]:=fun objs=>by rw [ha];rfl
  unfold JB at h⊢
  simp only [hl,List.map_nil,List.length_nil,List.drop_zero] at h⊢
  split at h
  ·cases h
  ·obtain ⟨q,hq,h⟩:=bind_some h
   obtain ⟨h1,h2⟩:=hS q
   simp only [h1,List.map_nil,List.append_nil,yO,Option.some.injEq,Prod.mk.injEq] at h
   refine ⟨h.2.symm,fun objs'=> ?_⟩
   rename_i hd
   simp only [hd,hq,Option.bind_some,h1,List.map_nil,List.append_nil,yO,Option.some.injEq,Prod.mk.injEq,and_true]
   rw [←h.1]
   exact a7_ h2
theorem yB (ty ty':TypeId) (x:Operand):cU (iV T env ty x)=cU (iV T env ty' x):=by
  have key:∀v:Value,cU (iV T env ty (.const v))=[]:=fun v=>by
    unfold iV;dsimp only
    split
    ·split
     ·split<;>rfl
     ·rfl
    ·rfl
    ·rfl
    ·rfl
  have key':∀v:Value,cU (iV T env ty' (.const v))=[]:=fun v=>by
    unfold iV;dsimp only
    split
    ·split
     ·split<;>rfl
     ·rfl
    ·rfl
    ·rfl
    ·rfl
  cases x with
  | const v=>rw [key,key']
  | _=>rfl
theorem LF (f g:Nat→TypeId):∀(ps:List (Nat×Operand)),((kX T env f ps).flatMap fun p=>cU p.2)=(kX T env g ps).flatMap fun p=>cU p.2
  | []=>rfl
  | (i,x)::ps=>by simp only [kX,List.flatMap_cons,LF f g ps,yB (f i) (g i) x]
end
end Km
namespace Km
open Go
variable {κ:Type} {Ty:κ→Type} {R α:Type}
section
variable {C:Cod κ Ty} {T:TypeId→Option (TI κ Ty)} {Γ:FuncId→Option (bU κ Ty)} {objs objs':aH κ Ty} {env env':Env κ Ty}
def XS (C:Cod κ Ty) (T:TypeId→Option (TI κ Ty)) (Γ:FuncId→Option (bU κ Ty)) (o:Oper) (env:Env κ Ty) (objs:aH κ Ty) (v:AV κ Ty) (o1:aH κ Ty):Prop:=
  Keeps (bB C T Γ o env objs).writes objs o1∧
  ((bB C T Γ o env objs).loud=false→o1=objs∧∀objs':aH κ Ty,Like (bB C T Γ o env objs).reads objs objs'→A8 C T Γ o env objs'=some (v,objs')∧bB C T Γ o env objs'=bB C T Γ o env objs)
theorem iO {o:Oper} {v:AV κ Ty} {o1:aH κ Ty} {l:List Nat} (hf:∀objs,bB C T Γ o env objs=⟨false,l,[]⟩)
    (hk:∀(objs:aH κ Ty) (K:AV κ Ty→aH κ Ty→Option (AV κ Ty×aH κ Ty)),aop C T Γ o env objs K=aop C T Γ o env objs fun v _=>K v objs)
    (hl:∀objs',Like l objs objs'→aop C T Γ o env objs' (fun v _=>some v)=aop C T Γ o env objs (fun v _=>some v)) (h:A8 C T Γ o env objs=some (v,o1)):XS C T Γ o env objs v o1:=by
  have hn:∀objs:aH κ Ty,A8 C T Γ o env objs=(aop C T Γ o env objs fun v _=>some v).map fun v=>(v,objs):=fun objs=>by
    rw [A8,hk,Option.map_eq_bind]
    exact bp_ o (fun v _=>some v) fun v=>some (v,objs)
  rw [hn] at h
  simp only [Option.map_eq_some_iff,Prod.mk.injEq] at h
  obtain ⟨v',h1,rfl,rfl⟩:=h
  refine ⟨.refl _,fun _=>⟨rfl,fun objs' hlk=>⟨?_,by rw [hf,hf]⟩⟩⟩
  rw [hf] at hlk
  rw [hn,hl _ hlk,h1];rfl
theorem eE {o:Oper} {v:AV κ Ty} {o1:aH κ Ty} {l:List Nat} (hf:∀objs,bB C T Γ o env objs=⟨false,l,[]⟩)
    (hk:∀(objs:aH κ Ty) (K:AV κ Ty→aH κ Ty→Option (AV κ Ty×aH κ Ty)),aop C T Γ o env objs K=aop C T Γ o env objs fun v _=>K v objs)
    (hl:∀objs',aop C T Γ o env objs' (fun v _=>some v)=aop C T Γ o env objs (fun v _=>some v)) (h:A8 C T Γ o env objs=some (v,o1)):XS C T Γ o env objs v o1:=iO hf hk (fun o' _=>hl o') h
theorem dP {o:Oper} {v:AV κ Ty} {o1:aH κ Ty} (hf:(bB C T Γ o env objs).loud=true) (hk:Keeps (bB C T Γ o env objs).writes objs o1):XS C T Γ o env objs v o1:=
  ⟨hk,fun h=>by rw [hf] at h;cases h⟩
theorem RX (hQ:QuietOk Γ) {o:Oper} {v:AV κ Ty} {o1:aH κ Ty} (h:A8 C T Γ o env objs=some (v,o1)):XS C T Γ o env objs v o1:=by
  obtain ⟨dst,op,type,pos,after,guard⟩:=o
  cases op with
  | move x=>exact eE (fun _=>rfl) (fun _ _=>rfl) (fun _=>rfl) h
  | assign x=>exact eE (fun _=>rfl) (fun _ _=>rfl) (fun _=>rfl) h
  | pick c a b=>exact eE (fun _=>rfl) (fun _ _=>rfl) (fun _=>rfl) h
  | alloc t=>
    refine dP rfl ?_
    simp only [A8,aop] at h
    split at h
    ·split at h
     ·split at h
      ·split at h
       ·cases h
       ·cases h;exact (Keeps.refl _).push _
      ·split at h
       ·split at h
        ·cases h;exact (Keeps.refl _).push _
        ·cases h
       ·cases h
     ·split at h
      ·split at h
       ·cases h;exact (Keeps.refl _).push _
       ·cases h
      ·cases h;exact (Keeps.refl _).push _
    ·cases h
  | box t x=>
    refine dP rfl ?_
    simp only [A8,aop] at h
    split at h
    ·split at h
     ·cases h
     ·cases h;exact (Keeps.refl _).push _
    ·cases h
  | build t ps=>exact eE (fun _=>rfl) (fun _ _=>rfl) (fun _=>rfl) h
  | buildSlice t n ps=>
    by_cases hnil:ps.toList=[]
    ·exact eE (l:=[]) (fun _=>by simp only [bB,hnil]) (fun _ _=>by simp only [aop,hnil]) (fun _=>by simp only [aop,hnil]) h
    ·by_cases hk:D7 ps.toList=true
     ·exact eE (l:=[]) (fun _=>by simp only [bB,hk]) (fun _ _=>by simp only [aop,hk]) (fun _=>by simp only [aop,hk]) h
     have hk:D7 ps.toList=false:=by simpa using hk
     have hf:∀objs:aH κ Ty,bB C T Γ ⟨dst, .buildSlice t n ps,type,pos,after,guard⟩ env objs=⟨true,(kX T env (fun _=>0) ps.toList).flatMap fun p=>cU p.2,(kX T env (fun _=>0) ps.toList).flatMap fun p=>cU p.2⟩:=fun objs=>by
       simp only [bB,hk]
     refine dP (by rw [hf]) ?_
     rw [hf]
     simp only [A8,aop] at h
     split at h
     ·split at h
      ·rename_i e s _
       simp only [hk] at h
       split at h
       ·obtain ⟨ys,o2,h,hk⟩:=J9 h
        cases h
        refine Keeps.push (hk.sub fun i hi=> ?_) _
        rw [LF (fun _=>0) (fun _=>e)];exact hi
       ·cases h
      ·cases h
     ·cases h
  | load t a=>
    refine iO (l:=fG T env 0 a) (fun _=>rfl) (fun _ _=>rfl) (fun o' hl=> ?_) h
    exact VT hl _
  | store t a x=>
    refine dP rfl ?_
    simp only [A8,aop] at h
    split at h
    ·obtain ⟨o2,h,hk⟩:=RV h
     cases h;exact hk
    ·cases h
  | nilCheck x=>
    refine iO (l:=fG T env type x) (fun _=>rfl) (fun _ _=>rfl) (fun o' hl=> ?_) h
    simp only [aop]
    rw [IJ hl]
  | binOp op t x y z=>exact eE (fun _=>rfl) (fun _ _=>by simp only [aop]) (fun _=>by simp only [aop]) h
  | unOp op t x=>exact eE (fun _=>rfl) (fun _ _=>rfl) (fun _=>rfl) h
  | convert s d x=>
    by_cases hd:∃td e s',T d=some td∧td.shp= .slice e s'
    ·obtain ⟨td,e,s',h1,h2⟩:=hd
     have hf:∀objs:aH κ Ty,bB C T Γ ⟨dst, .convert s d x,type,pos,after,guard⟩ env objs=⟨true,[],[]⟩:=fun objs=>by simp [bB,h1,h2]
     refine dP (by rw [hf]) ?_
     rw [hf]
     simp only [A8,aop] at h
     split at h
     ·rename_i ti td' hti htd
      rw [h1] at htd;cases htd
      rw [h2] at h
      split at h
      ·rename_i he _;cases he
      ·rename_i he;cases he
      ·split at h
       ·split at h
        ·split at h
         ·split at h
          ·cases h;exact (Keeps.refl _).push _
          ·cases h
         ·cases h
        ·cases h
       ·cases h
      ·cases h
     ·cases h
    ·by_cases hn:∃td,T d=some td
     ·obtain ⟨td,htd⟩:=hn
      have hns:∀e s',td.shp≠ .slice e s':=fun e s' he=>hd ⟨td,e,s',htd,he⟩
      have hf:∀objs:aH κ Ty,bB C T Γ ⟨dst, .convert s d x,type,pos,after,guard⟩ env objs=⟨false,fG T env type x,[]⟩:=fun objs=>by
        simp only [bB,htd]
      have hk:∀{R:Type} (objs:aH κ Ty) (K:AV κ Ty→aH κ Ty→Option R),aop C T Γ ⟨dst, .convert s d x,type,pos,after,guard⟩ env objs K=aop C T Γ ⟨dst, .convert s d x,type,pos,after,guard⟩ env objs fun v _=>K v objs:=fun objs K=>by
        simp only [aop,htd]
        split
        ·rename_i ti td2 hti htd2
         obtain rfl:=Option.some.inj htd2
         split
         ·rfl
         ·rfl
         ·rename_i he _;exact absurd he (hns _ _)
         ·rfl
        ·rfl
      refine iO (l:=fG T env type x) hf (fun objs K=>hk objs K) (fun o' hl=> ?_) h
      have e:=JF (hl.sub fun i hi=>RS hi)
      simp only [aop,htd]
      split
      ·rename_i ti td2 hti htd2
       obtain rfl:=Option.some.inj htd2
       split
       ·rfl
       ·rw [e]
       ·rename_i he _;exact absurd he (hns _ _)
       ·rfl
      ·rfl
     ·have:T d=none:=by
        cases hT:T d with
        | none=>rfl
        | some td=>exact absurd ⟨td,hT⟩ hn
      simp only [A8,aop,this] at h
      split at h
      ·rename_i hh;cases hh
      ·cases h
  | makeSlice t n c=>
    refine dP rfl ?_
    simp only [A8,aop] at h
    split at h
    ·split at h
     ·split at h
      ·split at h
       ·obtain ⟨m,_,h⟩:=bind_some h
        split at h
        ·split at h
         ·split at h<;>(cases h;exact (Keeps.refl _).push _)
         ·cases h
        ·cases h
       ·cases h
      ·cases h
     ·cases h
    ·cases h
  | slice t x lo hi mx=>
    refine iO (l:=fG T env t x) (fun _=>rfl) (fun _ _=>rfl) (fun o' hl=> ?_) h
    simp only [aop]
    split
    ·split
     ·split
      ·exact W5 hl _
      ·rfl
     ·split
      ·exact RY hl _
      ·rfl
     ·rfl
    ·rfl
  | makeMap t r=>
    refine dP rfl ?_
    simp only [A8,aop] at h
    split at h
    ·split at h
     ·split at h
      ·cases h;exact (Keeps.refl _).push _
      ·cases h
     ·cases h
    ·cases h
  | lookup t m x ok=>
    cases ok with
    | true=>exact eE (l:=[]) (fun _=>by simp only [bB]) (fun _ _=>by simp only [aop]) (fun _=>by simp only [aop]) h
    | false=>
    simp only [A8,aop] at h
    ·split at h
     ·rename_i ti ht
      split at h
      ·rename_i kt et k v hs
       split at h
       ·rename_i te hte
        split at h
        ·rename_i z hz
         refine iO (l:=fG T env 0 m) (fun _=>by simp only [bB,ht,hs,hte,hz]) (fun _ _=>by simp only [aop,ht,hs,hte,hz]) (fun o' hl=> ?_) (by simpa only [A8,aop,ht,hs,hte,hz] using h)
         simp only [aop,ht,hs,hte,hz]
         exact O4 hl _
        ·rename_i s hz
         have hf:bB C T Γ ⟨dst, .lookup t m x false,type,pos,after,guard⟩ env objs=⟨true,vN objs (fG T env 0 m),vN objs (fG T env 0 m)⟩:=by simp only [bB,ht,hs,hte,hz]
         refine dP (by rw [hf]) ?_
         rw [hf]
         obtain ⟨y,o2,h,hk⟩:=MQ h
         cases h;exact hk
        ·cases h
       ·cases h
      ·cases h
     ·cases h
  | mapEntry t m x=>
    refine dP rfl ?_
    simp only [A8,aop] at h
    split at h
    ·split at h
     ·split at h
      ·obtain ⟨y,o2,h,hk⟩:=J6 h
       cases h;exact hk
      ·cases h
     ·cases h
    ·cases h
  | entryStore t m n x=>
    refine dP rfl ?_
    simp only [A8,aop] at h
    split at h
    ·obtain ⟨o2,h,hk⟩:=EN h
     cases h;exact hk
    ·cases h
  | fieldAddr s x f=>
    refine iO (l:=fG T env 0 x) (fun _=>rfl) (fun _ _=>rfl) (fun o' hl=> ?_) h
    simp only [aop]
    rw [IJ hl]
  | field s x f=>exact eE (fun _=>rfl) (fun _ _=>rfl) (fun _=>rfl) h
  | indexAddr t x i=>
    refine iO (l:=fG T env t x) (fun _=>rfl) (fun _ _=>rfl) (fun o' hl=> ?_) h
    simp only [aop]
    split
    ·exact KE hl _
    ·rfl
  | index t x i=>exact eE (fun _=>rfl) (fun _ _=>rfl) (fun _=>rfl) h
  | extract x i=>exact eE (fun _=>rfl) (fun _ _=>rfl) (fun _=>rfl) h
  | call c=>
    simp only [A8,aop] at h
    split at h
    ·rename_i b hb
     split at h
     ·
       have hf:∀objs:aH κ Ty,bB C T Γ ⟨dst, .call c,type,pos,after,guard⟩ env objs=⟨false,(jQ T env c.args.toList c.argTypes.toList).flatMap cU,[]⟩:=fun objs=>by simp [bB,hb]
       split at h
       ·rename_i x t hx ht
        refine iO hf (fun _ _=>by simp only [aop,hb,hx,ht]) (fun o' hl=> ?_) (by simpa only [A8,aop,hb,hx,ht] using h)
        simp only [aop,hb,hx,ht]
        split
        ·rw [ZG (hl.sub fun i hi=>by simp only [hx,ht,jQ,List.flatMap_cons,List.mem_append];exact .inl hi)]
        ·rfl
       ·cases h
     ·
       have hf:∀objs:aH κ Ty,bB C T Γ ⟨dst, .call c,type,pos,after,guard⟩ env objs=⟨true,(jQ T env c.args.toList c.argTypes.toList).flatMap cU,PN (jQ T env c.args.toList c.argTypes.toList)⟩:=fun objs=>by simp [bB,hb]
       refine dP (by rw [hf]) ?_
       rw [hf]
       split at h
       ·rename_i x y t1 t2 hx ht
        split at h
        ·split at h
         ·obtain ⟨v',o2,h,hk⟩:=PO h
          cases h
          exact hk.sub fun i hi=>by simpa [hx,ht,jQ,PN] using hi
         ·obtain ⟨v',o2,h,hk⟩:=MC h
          cases h
          exact hk.sub fun i hi=>by simpa [hx,ht,jQ,PN] using hi
         ·cases h
        ·cases h
       ·cases h
     ·
       have hf:∀objs:aH κ Ty,bB C T Γ ⟨dst, .call c,type,pos,after,guard⟩ env objs=⟨true,(jQ T env c.args.toList c.argTypes.toList).flatMap cU,(jQ T env c.args.toList c.argTypes.toList).flatMap cU⟩:=fun objs=>by simp [bB,hb]
       refine dP (by rw [hf]) ?_
       rw [hf]
       split at h
       ·rename_i x y t1 t2 hx ht
        split at h
        ·split at h
         ·obtain ⟨v',o2,h,hk⟩:=WC h
          cases h
          exact hk.sub fun i hi=>by simpa [hx,ht,jQ] using hi
         ·cases h
        ·cases h
       ·cases h
     ·cases h
    ·rename_i f hf
     split at h
     ·rename_i S hlen hΓ
      by_cases hq:S.quiet&&WB ((mW C objs (jQ T env c.args.toList c.argTypes.toList) S.modes).flatMap cU)
      ·have hft:bB C T Γ ⟨dst, .call c,type,pos,after,guard⟩ env objs=⟨false,(jQ T env c.args.toList c.argTypes.toList).flatMap cU,[]⟩:=by simp only [bB,hf,hΓ,hq]
       simp only [Bool.and_eq_true] at hq
       obtain ⟨n1,n2⟩:=I0 (isNil_iff.mp hq.2)
       simp only [n1,n2,xQ] at h
       obtain ⟨k1,k2⟩:=XA (hQ f S hΓ hq.1) (isNil_iff.mp hq.2) h
       subst k1
       refine ⟨.refl _,fun _=>⟨rfl,fun objs' hl=> ?_⟩⟩
       rw [hft] at hl
       have hp:=DS (C:=C) S.modes hl
       refine ⟨?_, ?_⟩
       ·simp only [A8,aop,hf,hlen,hΓ,n1,n2,xQ,hp];exact k2 objs'
       ·rw [hft];simp only [bB,hf,hΓ,hp,hq,Bool.and_true]
      ·have hq':(S.quiet&&WB ((mW C objs (jQ T env c.args.toList c.argTypes.toList) S.modes).flatMap cU))=false:=by simpa using hq
       refine dP (by simp only [bB,hf,hΓ,hq']) ?_
       have hx:=mE (C:=C) (jQ T env c.args.toList c.argTypes.toList) S.modes objs
       obtain ⟨v',o2,h,hk⟩:=VO h
       obtain ⟨o3,h,g1,g2⟩:=E9 h
       cases h
       simp only [bB,hf,hΓ,hq']
       refine ⟨Nat.le_trans hx.1 (Nat.le_trans hk.1 g1),fun id hid hlt=> ?_⟩
       simp only [List.mem_append,not_or] at hid
       rw [g2 id hid.1 hlt,hk.2 id hid.2 (by have:=hx.1;omega),hx.2 id hid.1 hlt]
     ·cases h
    ·cases h
  | _=>simp [A8,aop] at h
end
end Km
namespace Km
open Go
variable {κ:Type} {Ty:κ→Type} {R α:Type}
section
variable {P:Program} {C:Cod κ Ty} {T:TypeId→Option (TI κ Ty)} {Γ:FuncId→Option (bU κ Ty)} {objs objs':aH κ Ty} {env env':Env κ Ty}
variable {Mut:Nat→Prop} {Lent:Org κ Ty} {w0 w w':World} {ρ ρ' ρ2:Nat→Loc} {a:Act} {tm:Array Value} {all:Array Oper}
def PD (C:Cod κ Ty) (T:TypeId→Option (TI κ Ty)) (Γ:FuncId→Option (bU κ Ty)) (all:Array Oper) (o:Oper) (env:Env κ Ty) (objs:aH κ Ty) (v:AV κ Ty) (o1:aH κ Ty):Prop:=
  match o.guard with
  | none=>A8 C T Γ o env objs=some (v,o1)
  | some (j,want)=>match (all[j]?).bind (·.dst) with
    | none=>False
    | some d=>(∃b,look env d= .lit (.bool b)∧((eqB b want=true∧A8 C T Γ o env objs=some (v,o1))∨(eqB b want=false∧v= .void∧o1=objs)))∨(look env d= .void∧v= .void∧o1=objs)
theorem tK {d:Nat} {x:AV κ Ty} (h:look env d=x) (t:Nat):look ((d,x)::env) t=look env t:=by
  rw [nN];split
  ·rename_i e;rw [e,h]
  ·rfl
theorem BL {o:Oper} {v:AV κ Ty} (h:∀t,look env' t=look env t) (t:Nat):look (put o env' v) t=look (put o env v) t:=by
  unfold put
  cases o.dst with
  | none=>exact h t
  | some d=>simp only [nN,h]
theorem PZ {xs:List Operand} (h:∀t,look env' t=look env t):Y7 xs env env':=fun t _=>h t
theorem S7 {o:Oper} (h:∀t,look env' t=look env t):A8 C T Γ o env' objs=A8 C T Γ o env objs:=(KY (PZ h) _).1
theorem Z5 {o:Oper} {K:Env κ Ty→aH κ Ty→Option R} {r:R} (h:yN C T Γ all o env objs K=some r):
    ∃v o1 env1,PD C T Γ all o env objs v o1∧K env1 o1=some r∧∀t,look env1 t=look (put o env v) t:=by
  unfold yN at h
  unfold PD
  split at h
  ·rename_i hg
   obtain ⟨v,o1,h1,h2⟩:=cp_ h
   exact ⟨v,o1,_,by rw [hg];exact h1,h2,fun t=>rfl⟩
  ·rename_i j want hg
   split at h
   ·cases h
   ·rename_i d hd
    split at h
    ·rename_i b hb
     have h:=BJ h
     split at h
     ·rename_i he
      obtain ⟨v,o1,h1,h2⟩:=cp_ h
      rw [S7 (tK hb)] at h1
      refine ⟨v,o1,_, ?_,h2,BL (tK hb)⟩
      rw [hg];dsimp only;rw [hd]
      exact .inl ⟨b,hb, .inl ⟨he,h1⟩⟩
     ·rename_i he
      refine ⟨_,_,_, ?_,h,BL (tK hb)⟩
      rw [hg];dsimp only;rw [hd]
      exact .inl ⟨b,hb, .inr ⟨he,rfl,rfl⟩⟩
    ·rename_i hb
     refine ⟨_,_,_, ?_,h,fun t=>rfl⟩
     rw [hg];dsimp only;rw [hd]
     exact .inr ⟨hb,rfl,rfl⟩
    ·cases h
theorem Z0 {o:Oper} {v:AV κ Ty} {o1:aH κ Ty} (h:PD C T Γ all o env objs v o1):
    ∃env1,(∀t,look env1 t=look (put o env v) t)∧(yN C T Γ all o env objs fun e o=>some (e,o))=some (env1,o1):=by
  unfold PD at h
  unfold yN
  split at h
  ·rename_i hg
   rw [hg]
   refine ⟨_,fun t=>rfl, ?_⟩
   dsimp only
   rw [OX,h];rfl
  ·rename_i j want hg
   split at h
   ·exact h.elim
   ·rename_i d hd
    rw [hg];dsimp only;rw [hd];dsimp only
    rcases h with ⟨b,hb,⟨he,h⟩ | ⟨he,rfl,rfl⟩⟩ | ⟨hb,rfl,rfl⟩
    ·refine ⟨put o ((d, .lit (.bool b))::env) v,BL (tK hb), ?_⟩
     rw [hb];dsimp only
     have:∀K:Bool→Option (Env κ Ty×aH κ Ty),ifB b K=K b:=fun K=>by cases b<;>rfl
     rw [this,he];dsimp only
     rw [OX,S7 (tK hb),h];rfl
    ·refine ⟨put o ((d, .lit (.bool b))::env) .void,BL (tK hb), ?_⟩
     rw [hb];dsimp only
     have:∀K:Bool→Option (Env κ Ty×aH κ Ty),ifB b K=K b:=fun K=>by cases b<;>rfl
     rw [this,he]
    ·refine ⟨put o env .void,fun t=>rfl, ?_⟩
     rw [hb]
def AgreeO (all:Array Oper) (o:Oper) (env env':Env κ Ty):Prop:=∀t∈o.looksAt all,look env' t=look env t
theorem AgreeO.ops {o:Oper} (h:AgreeO all o env env'):Y7 o.op.operands.toList env env':=fun t ht=>h t (by
  simp only [Oper.looksAt,List.mem_append]
  exact .inl (List.mem_filterMap.mpr ⟨_,ht,rfl⟩))
theorem yG {o:Oper} {v:AV κ Ty} {o1:aH κ Ty} (h:AgreeO all o env env') (hd:PD C T Γ all o env objs v o1):PD C T Γ all o env' objs v o1:=by
  have ha:A8 C T Γ o env' objs=A8 C T Γ o env objs:=(KY h.ops _).1
  unfold PD at hd⊢
  split at hd
  ·rw [ha];exact hd
  ·rename_i j want hg
   split at hd
   ·exact hd.elim
   ·rename_i d hdst
    have hl:look env' d=look env d:=h d (by simp only [Oper.looksAt,hg,hdst,List.mem_append];exact .inr (by simp))
    rw [hl,ha];exact hd
theorem DR (C:Cod κ Ty) {o:Oper} (h:AgreeO all o env env'):fH C T Γ all o env' objs=fH C T Γ all o env objs:=by
  have ha:bB C T Γ o env' objs=bB C T Γ o env objs:=(KY (C:=C) (R:=Unit) h.ops fun _ _=>none).2
  unfold fH
  split
  ·exact ha
  ·rename_i j want hg
   split
   ·rfl
   ·rename_i d hdst
    have hl:look env' d=look env d:=h d (by simp only [Oper.looksAt,hg,hdst,List.mem_append];exact .inr (by simp))
    rw [hl,ha]
theorem ES (hQ:QuietOk Γ) {o:Oper} {v:AV κ Ty} {o1:aH κ Ty} (h:PD C T Γ all o env objs v o1):
    Keeps (fH C T Γ all o env objs).writes objs o1∧
    ((fH C T Γ all o env objs).loud=false→o1=objs∧∀objs':aH κ Ty,Like (fH C T Γ all o env objs).reads objs objs'→PD C T Γ all o env objs' v objs'∧fH C T Γ all o env objs'=fH C T Γ all o env objs):=by
  unfold PD at h
  split at h
  ·rename_i hg
   have:=RX hQ h
   have e:∀objs:aH κ Ty,fH C T Γ all o env objs=bB C T Γ o env objs:=fun objs=>by simp only [fH,hg]
   simp only [e,PD,hg]
   exact this
  ·rename_i j want hg
   split at h
   ·exact h.elim
   ·rename_i d hdst
    rcases h with ⟨b,hb,⟨he,h⟩ | ⟨he,rfl,rfl⟩⟩ | ⟨hb,rfl,rfl⟩
    ·have:=RX hQ h
     have e:∀objs:aH κ Ty,fH C T Γ all o env objs=bB C T Γ o env objs:=fun objs=>by simp only [fH,hg,hdst,hb,he]
     simp only [e,PD,hg,hdst,hb]
     refine ⟨this.1,fun hq=>⟨(this.2 hq).1,fun objs' hl=>⟨.inl ⟨b,rfl, .inl ⟨he,((this.2 hq).2 objs' hl).1⟩⟩,((this.2 hq).2 objs' hl).2⟩⟩⟩
    ·have e:∀objs:aH κ Ty,fH C T Γ all o env objs=⟨false,[],[]⟩:=fun objs=>by simp only [fH,hg,hdst,hb,he]
     simp only [e,PD,hg,hdst,hb]
     exact ⟨.refl _,fun _=>⟨trivial,fun objs' _=>⟨.inl ⟨b,rfl, .inr ⟨he,trivial,trivial⟩⟩,trivial⟩⟩⟩
    ·have e:∀objs:aH κ Ty,fH C T Γ all o env objs=⟨false,[],[]⟩:=fun objs=>by simp only [fH,hg,hdst,hb]
     simp only [e,PD,hg,hdst,hb]
     exact ⟨.refl _,fun _=>⟨trivial,fun objs' _=>⟨.inr ⟨trivial,trivial,trivial⟩,trivial⟩⟩⟩
inductive Tr (C:Cod κ Ty) (T:TypeId→Option (TI κ Ty)) (Γ:FuncId→Option (bU κ Ty)) (all:Array Oper):List (Nat×Oper)→Env κ Ty→aH κ Ty→List (Nat×Oper×BI)→Env κ Ty→aH κ Ty→Prop
  | nil {env:Env κ Ty} {objs:aH κ Ty}:Tr C T Γ all [] env objs [] env objs
  | cons {i:Nat} {o:Oper} {L:List (Nat×Oper)} {env:Env κ Ty} {objs:aH κ Ty} {v:AV κ Ty} {o1:aH κ Ty} {l:List (Nat×Oper×BI)} {e2:Env κ Ty} {o2:aH κ Ty}
      (hd:PD C T Γ all o env objs v o1) (hr:∀id∈(fH C T Γ all o env objs).reads,id<objs.length) (ht:Tr C T Γ all L (put o env v) o1 l e2 o2):
      Tr C T Γ all ((i,o)::L) env objs ((i,o,fH C T Γ all o env objs)::l) e2 o2
theorem Tr.look {L:List (Nat×Oper)} {l:List (Nat×Oper×BI)} {e2:Env κ Ty} {o2:aH κ Ty} (h:Tr C T Γ all L env objs l e2 o2):∀{env':Env κ Ty},(∀t,Km.look env' t=Km.look env t)→
    ∃e2',Tr C T Γ all L env' objs l e2' o2∧∀t,Km.look e2' t=Km.look e2 t:=by
  induction h with
  | nil=>intro env' he;exact ⟨_, .nil,he⟩
  | @cons i o L env objs v o1 l e2 o2 hd hr ht ih=>
    intro env' he
    obtain ⟨e2',h1,h2⟩:=ih (BL he)
    have ha:AgreeO all o env env':=fun t _=>he t
    have hf:=DR (T:=T) (Γ:=Γ) (objs:=objs) C ha
    refine ⟨e2', ?_,h2⟩
    rw [←hf]
    exact .cons (yG ha hd) (by rw [hf];exact hr) h1
theorem OB {x y:BI} (h:B4 x y=true):(x.loud=false∨y.loud=false)∧(∀i∈x.reads,i∉y.writes)∧(∀i∈y.reads,i∉x.writes):=by
  unfold B4 at h
  split at h
  ·cases h
  ·rename_i hl
   simp only [Bool.and_eq_true] at h
   refine ⟨?_,(CT _ _).mp h.1,(CT _ _).mp h.2⟩
   cases hx:x.loud<;>cases hy:y.loud<;>simp_all
theorem KR {o p:Oper} {v:AV κ Ty} (h:∀d,p.dst=some d→d∉o.looksAt all):AgreeO all o env (put p env v):=fun t ht=>by
  unfold put
  cases hd:p.dst with
  | none=>rfl
  | some d=>
    simp only [nN]
    rw [if_neg (fun (e:t=d)=>h d hd (by rw [←e];exact ht))]
theorem AgreeO.symm {o:Oper} (h:AgreeO all o env env'):AgreeO all o env' env:=fun t ht=>(h t ht).symm
theorem co_ {o p:Oper} {v u:AV κ Ty} (h:∀d,p.dst=some d→o.dst≠some d) (t:Nat):look (put p (put o env v) u) t=look (put o (put p env u) v) t:=by
  unfold put
  cases hp:p.dst with
  | none=>cases ho:o.dst<;>rfl
  | some d=>
    cases ho:o.dst with
    | none=>rfl
    | some e=>
      have hne:e≠d:=fun x=>h d hp (by rw [ho,x])
      simp only [nN]
      by_cases h1:t=d
      ·subst h1;simp [Ne.symm hne]
      ·simp [h1]
theorem IG {x y:Oper} (h:FM all x y=true):(∀d,x.dst=some d→d∉y.looksAt all)∧(∀d,x.dst=some d→y.dst≠some d)∧(∀d,y.dst=some d→d∉x.looksAt all):=by
  have en:∀{i:Nat} {l:List Nat},rR i l=false→i∉l:=fun h hm=>by rw [(lG _ _).mpr hm] at h;cases h
  unfold FM at h
  split at h
  ·rename_i d hd
   split at h
   ·cases h
   ·rename_i h1
    split at h
    ·rename_i e he
     split at h
     ·cases h
     ·rename_i h2
      refine ⟨fun d' h'=> ?_,fun d' h' h''=> ?_,fun e' h'=> ?_⟩
      ·rw [hd] at h';cases h';exact en h1
      ·rw [hd] at h';cases h'
       rw [he] at h'';cases h''
       rw [Nat.beq_refl] at h2;cases h2
      ·rw [he] at h';cases h'
       exact en (by simpa using h)
    ·rename_i he
     refine ⟨fun d' h'=> ?_,fun d' h' h''=> ?_,fun e' h'=> ?_⟩
     ·rw [hd] at h';cases h';exact en h1
     ·rw [he] at h'';cases h''
     ·rw [he] at h';cases h'
  ·rename_i hd
   split at h
   ·rename_i e he
    refine ⟨fun d' h'=> ?_,fun d' h' h''=> ?_,fun e' h'=> ?_⟩
    ·rw [hd] at h';cases h'
    ·rw [hd] at h';cases h'
    ·rw [he] at h';cases h'
     exact en (by simpa using h)
   ·rename_i he
    refine ⟨fun d' h'=> ?_,fun d' h' h''=> ?_,fun e' h'=> ?_⟩
    ·rw [hd] at h';cases h'
    ·rw [hd] at h';cases h'
    ·rw [he] at h';cases h'
theorem Tr.front (hQ:QuietOk Γ) {i:Nat} {oi:Oper} {f:BI} {L2:List (Nat×Oper)} {l2:List (Nat×Oper×BI)} {e2:Env κ Ty} {o2:aH κ Ty}:∀{L1:List (Nat×Oper)} {l1:List (Nat×Oper×BI)} {env:Env κ Ty} {objs:aH κ Ty},
    L1.length=l1.length→Tr C T Γ all (L1++(i,oi)::L2) env objs (l1++(i,oi,f)::l2) e2 o2→(∀x∈l1,FM all x.2.1 oi=true∧B4 x.2.2 f=true)→(∀id∈f.reads,id<objs.length)→
    ∃v o1 e2',PD C T Γ all oi env objs v o1∧fH C T Γ all oi env objs=f∧Tr C T Γ all (L1++L2) (put oi env v) o1 (l1++l2) e2' o2∧∀t,Km.look e2' t=Km.look e2 t
  | [],[],env,objs,_,h,_,_=>by
    cases h with
    | cons hd hr ht=>exact ⟨_,_,_,hd,rfl,ht,fun _=>rfl⟩
  | [],_::_,_,_,hl,_,_,_=>by simp at hl
  | _::_,[],_,_,hl,_,_,_=>by simp at hl
  | (j,oj)::L1,x::l1,env,objs,hl,h,hc,hi=>by
    simp only [List.cons_append] at h
    cases h with
    | cons hd hr ht=>
      rename_i vj oa
      obtain ⟨c1,c2⟩:=hc _ (List.mem_cons_self ..)
      obtain ⟨p1,p2,p3⟩:=IG c1
      obtain ⟨q1,q2,q3⟩:=OB c2
      obtain ⟨k1,k2⟩:=ES hQ hd
      obtain ⟨v,o1,e2',g1,g2,g3,g4⟩:=Tr.front hQ (by simpa using hl) ht (fun x hx=>hc x (List.mem_cons_of_mem _ hx)) (fun id hid=>by have:=hi id hid;have:=k1.1;omega)
      dsimp only at p1 p2 p3 q1 q2 q3 k1 k2
      have ai:AgreeO all oi env (put oj env vj):=KR p1
      have aj:AgreeO all oj env (put oi env v):=KR p3
      have fi:∀o:aH κ Ty,fH C T Γ all oi (put oj env vj) o=fH C T Γ all oi env o:=fun o=>DR C ai
      have fj:∀o:aH κ Ty,fH C T Γ all oj (put oi env v) o=fH C T Γ all oj env o:=fun o=>DR C aj
      have key:∃ob,PD C T Γ all oi env objs v ob∧fH C T Γ all oi env objs=f∧PD C T Γ all oj env ob vj o1∧fH C T Γ all oj env ob=fH C T Γ all oj env objs∧objs.length≤ob.length:=by
        obtain ⟨m1,m2⟩:=ES hQ g1
        rw [g2] at m1 m2
        rcases hlf:f.loud with _ | _
        ·
          obtain ⟨rfl,m3⟩:=m2 hlf
          have lk:Like f.reads _ objs:=fun id hid=>(k1.2 id (q3 id hid) (hi id hid)).symm
          obtain ⟨n1,n2⟩:=m3 objs lk
          refine ⟨objs,yG ai.symm n1, ?_,hd,rfl,Nat.le_refl _⟩
          rw [←fi,n2]
        ·
          have hq:(fH C T Γ all oj env objs).loud=false:=by
            rcases q1 with h | h
            ·exact h
            ·rw [hlf] at h;cases h
          obtain ⟨rfl,k3⟩:=k2 hq
          have lk:Like (fH C T Γ all oj env oa).reads oa o1:=fun id hid=>m1.2 id (q2 id hid) (hr id hid)
          obtain ⟨n1,n2⟩:=k3 o1 lk
          refine ⟨o1,yG ai.symm g1, ?_,n1,n2,m1.1⟩
          rw [←fi,g2]
      obtain ⟨ob,r1,r2,r3,r4,r5⟩:=key
      obtain ⟨e3,s1,s2⟩:=g3.look (env':=put oj (put oi env v) vj) (fun t=>co_ p2 t)
      refine ⟨v,ob,e3,r1,r2, ?_,fun t=>(s2 t).trans (g4 t)⟩
      simp only [List.cons_append]
      have hfj:fH C T Γ all oj env objs=fH C T Γ all oj (put oi env v) ob:=by rw [fj,r4]
      rw [hfj]
      refine .cons (yG aj r3) ?_ s1
      rw [←hfj]
      exact fun id hid=>Nat.lt_of_lt_of_le (hr id hid) r5
end
end Km
