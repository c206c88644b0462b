/- A part of the proof of FnLines: an abstract machine over the program, sound by its theorems. There is no condition. -/
import Derived.Test.YtgffmpjadffjkaaGreatDoorKmAm1
import Derived.Laws.BytesString
import Derived.Laws.StructEq
import Derived.Laws.IdiomStrings
set_option linter.unusedVariables false
set_option linter.unusedSimpArgs false
namespace Km
open Go
variable {κ:Type} {Ty:κ→Type} {R:Type}
section
variable {P:Program} {C:Cod κ Ty} {T:TypeId→Option (TI κ Ty)}
variable {Mut:Nat→Prop} {Lent:Org κ Ty} {w0 w w':World} {ρ ρ':Nat→Loc} {env:Env κ Ty} {objs objs' objs1:aH κ Ty} {tm:Array Value}
theorem eA (hw:Weaker objs objs1) (o:AObj κ Ty) (l:Loc) (i:Nat):Compat ρ objs (upd ρ objs1.length l) (objs1++[o]) i:=by
  unfold Compat
  split
  ·rename_i cs e
   have hi:=(List.getElem?_eq_some_iff.mp e).1
   have hi1:i<objs1.length:=by rw [hw.1];exact hi
   rcases hw.2 i with e' | e'
   ·exact .inl ⟨cs,by rw [dS hi1,e',e],dJ ρ _ l (by omega)⟩
   ·exact .inr (aZ (by rw [dS hi1,e']))
  ·rename_i t xs e
   have hi:=(List.getElem?_eq_some_iff.mp e).1
   have hi1:i<objs1.length:=by rw [hw.1];exact hi
   rcases hw.2 i with e' | e'
   ·exact .inl ⟨xs,by rw [dS hi1,e',e],rfl,dJ ρ _ l (by omega)⟩
   ·exact .inr (aZ (by rw [dS hi1,e']))
  ·rename_i k v es ho e
   have hi:=(List.getElem?_eq_some_iff.mp e).1
   have hi1:i<objs1.length:=by rw [hw.1];exact hi
   rcases hw.2 i with e' | e'
   ·exact .inl ⟨es,ho,by rw [dS hi1,e',e],by rw [dJ ρ _ l (by omega)]⟩
   ·exact .inr (aZ (by rw [dS hi1,e']))
  ·rename_i t xs g ho e
   have hi:=(List.getElem?_eq_some_iff.mp e).1
   have hi1:i<objs1.length:=by rw [hw.1];exact hi
   have hu:upd ρ objs1.length l i=ρ i:=dJ ρ _ l (by omega)
   rcases hw.2 i with e' | e'
   ·exact .inl ⟨xs,g,ho,by rw [dS hi1,e',e],rfl,by rw [hu];exact .refl _,Nat.le_refl _,fun _ h=>⟨h,rfl,hu⟩⟩
   ·exact .inr (aZ (by rw [dS hi1,e']))
  ·rename_i t xs n e
   have hi:=(List.getElem?_eq_some_iff.mp e).1
   have hi1:i<objs1.length:=by rw [hw.1];exact hi
   have hu:upd ρ objs1.length l i=ρ i:=dJ ρ _ l (by omega)
   rcases hw.2 i with e' | e'
   ·exact .inl ⟨xs,gO (by rw [dS hi1,e',e]),rfl,by rw [hu];exact .refl _⟩
   ·exact .inr (aZ (by rw [dS hi1,e']))
  ·rename_i e
   have hi:=(List.getElem?_eq_some_iff.mp e).1
   have hi1:i<objs1.length:=by rw [hw.1];exact hi
   rcases hw.2 i with e' | e'
   ·exact (aZ (by rw [dS hi1,e',e]))
   ·exact (aZ (by rw [dS hi1,e']))
  ·trivial
theorem SRel.flt (S:SRel C Mut Lent w0 ρ env objs tm w) {i b:Nat} (h:aG ρ objs i b):b<w.heap.size:=by
  exact foot_lt (S.ob i) h
theorem SRel.take (S:SRel C Mut Lent w0 ρ env objs tm w) (hw:Weaker objs objs1) {o:AObj κ Ty} {l:Loc}
    (hb:∀b,b<w.heap.size→b≠l.block∨¬bJ ρ objs b→w'.heap[b]? =w.heap[b]?) (hsz:w.heap.size≤w'.heap.size)
    (hl:(w.heap.size≤l.block∨(bJ ρ objs l.block∧∀i,¬aG ρ objs1 i l.block))∨∀b,¬aG (upd ρ objs1.length l) (objs1++[o]) objs1.length b)
    (hkeep:∀b,bJ ρ objs1 b→w'.heap[b]? =w.heap[b]?)
    (hnew:∀(_:WStep w w' (bJ ρ objs) (bJ (upd ρ objs1.length l) (objs1++[o]))),ORel C w' Mut (upd ρ objs1.length l) (objs1++[o]) objs1.length)
    (hos:w'.os=w.os) (htape:w'.tape=w.tape) (hout:w'.output=w.output) (hs:∀q,(l.sub q).2.2=0:=by intro;rfl):
    SRel C Mut Lent w0 (upd ρ objs1.length l) env (objs1++[o]) tm w':=by
  have hlen:=hw.1
  have fp:∀i b,aG (upd ρ objs1.length l) (objs1++[o]) i b→(i<objs1.length∧aG ρ objs1 i b)∨(i=objs1.length∧b=l.block∧aG (upd ρ objs1.length l) (objs1++[o]) objs1.length b):=fun i b h=>by
    rcases rF hs h with h1 | ⟨h1,h2⟩
    ·exact .inl h1
    ·exact .inr ⟨h1,h2,h1▸h⟩
  have W:WStep w w' (bJ ρ objs) (bJ (upd ρ objs1.length l) (objs1++[o])):=⟨fun b hlt hn=>hb b hlt (.inr hn),hsz,fun b ⟨i,hi⟩=>by
    rcases fp i b hi with ⟨_,h⟩ | ⟨_,h,hh⟩
    ·exact .inl ⟨i,hw.foot h⟩
    ·subst h
     rcases hl with (h1 | ⟨h1,_⟩) | h1
     ·exact .inr h1
     ·exact .inl h1
     ·exact absurd hh (h1 _)⟩
  refine S.step W (by simp;omega) (eA hw o l) (fun i=> ?_) (fun i j b hi hj=> ?_) hos htape hout
  ·by_cases hi:i<objs1.length
   ·rcases hw.2 i with e | e
    ·refine ORel.step W (by simp;omega) (eA hw o l) (S.ob i) (by rw [dS hi,e]) (dJ ρ _ l (by omega)) (fun b hb'=>hkeep b ⟨i, ?_⟩)
     unfold aG at hb'⊢;rw [e];exact hb'
    ·unfold ORel;rw [dS hi,e];trivial
   ·by_cases hn:i=objs1.length
    ·subst hn;exact hnew W
    ·unfold ORel
     have:(objs1++[o])[i]? =none:=List.getElem?_eq_none (by simp;omega)
     rw [this];trivial
  ·rcases fp i b hi with ⟨h1,h2⟩ | ⟨h1,h2,h3⟩<;>rcases fp j b hj with ⟨g1,g2⟩ | ⟨g1,g2,g3⟩
   ·exact S.inj i j b (hw.foot h2) (hw.foot g2)
   ·subst g2
    rcases hl with (hh | ⟨_,hh⟩) | hh
    ·have:=S.flt (hw.foot h2);omega
    ·exact absurd h2 (hh i)
    ·exact absurd g3 (hh _)
   ·subst h2
    rcases hl with (hh | ⟨_,hh⟩) | hh
    ·have:=S.flt (hw.foot g2);omega
    ·exact absurd g2 (hh j)
    ·exact absurd h3 (hh _)
   ·omega
theorem SO (need:Nat):∀(r c:Nat),c<need→256≤c→Builtin.growBy need r c≤2*need
  | 0,c,h,_=>by simp only [Builtin.growBy];omega
  | r+1,c,h,h2=>by
    simp only [Builtin.growBy]
    rw [if_neg (by omega)]
    by_cases h3:c+(c+768)/4<need
    ·exact SO need r _ h3 (by omega)
    ·cases r with
     | zero=>simp only [Builtin.growBy];omega
     | succ r=>simp only [Builtin.growBy];rw [if_pos (by omega)];omega
theorem Z2 {need old:Nat} (h:old<need):Builtin.nextslicecap need old≤2*need:=by
  unfold Builtin.nextslicecap
  split
  ·omega
  ·split
   ·omega
   ·exact SO need 4 old h (by omega)
theorem pH (HC:bH C) {t:κ} {xs:List (Ty t)} {A:Option Addr} {c blk off:Nat} (hA:xs≠[]→A=some (at' blk off)∧blk<w.heap.size)
    (hrow:∀i y j cl,xs[i]? =some y→(C.enc t y)[j]? =some cl→∃v,w.cell? (at' blk (off+i*C.sz t+j))=some v∧VRel C w Mut ρ objs cl v):
    ∃vs:List Value,vs.length=xs.length*C.sz t∧(∀w2:World,(∀a,w2.cell? a=w.cell? a)→(Builtin.firstCells (C.sz t) xs.length (.slice A xs.length c)).run P w2= .ok vs.toArray w2)∧(∀(q:Nat) (v:Value),vs[q]? =some v→bD v=true)∧
     ∀i y j cl,xs[i]? =some y→(C.enc t y)[j]? =some cl→∃v,vs[i*C.sz t+j]? =some v∧VRel C w Mut ρ objs cl v:=by
  by_cases hx:xs=[]
  ·subst hx
   refine ⟨[],by simp,fun w2 _=> ?_,fun q v h=>by simp at h,fun i y j cl h=>by simp at h⟩
   cases A with
   | none=>rfl
   | some a=>simp [Builtin.firstCells,loadCells,loadCellsFrom]
  ·obtain ⟨rfl,hblk⟩:=hA hx
   by_cases hs:C.sz t=0
   ·refine ⟨[],by simp [hs],fun w2 _=>by simp [Builtin.firstCells,hs,loadCells,loadCellsFrom],fun q v h=>by simp at h,fun i y j cl h1 h2=> ?_⟩
    have:=(List.getElem?_eq_some_iff.mp h2).1
    rw [HC.len,hs] at this;omega
   ·have hcell:∀q,q<xs.length*C.sz t→∃v,w.cell? (at' blk (off+q))=some v∧bD v=true:=fun q hq=>by
      have h1:q/C.sz t<xs.length:=(Nat.div_lt_iff_lt_mul (by omega)).mpr hq
      have h2:q%C.sz t<C.sz t:=Nat.mod_lt _ (by omega)
      have h3:(C.enc t xs[q/C.sz t])[q%C.sz t]? =some ((C.enc t xs[q/C.sz t])[q%C.sz t]'(by rw [HC.len];exact h2)):=List.getElem?_eq_getElem _
      obtain ⟨v,a1,a2⟩:=hrow (q/C.sz t) _ (q%C.sz t) _ (List.getElem?_eq_getElem h1) h3
      refine ⟨v, ?_,u7 HC (lX HC h3) a2⟩
      rw [←a1,Nat.add_assoc,Nat.div_add_mod']
    let f:Nat→Value:=fun q=>(w.cell? (at' blk (off+q))).getD Go.undef
    have hf:∀q,q<xs.length*C.sz t→w.cell? (at' blk (off+q))=some (f q):=fun q hq=>by
      obtain ⟨v,a1,_⟩:=hcell q hq;simp [f,a1]
    refine ⟨(List.range (xs.length*C.sz t)).map f,by simp,fun w2 h2=> ?_,fun q v hq=> ?_,fun i y j cl h1 h2=> ?_⟩
    ·simp only [Builtin.firstCells]
     exact run_loadCells w2 (at' blk off) _ f (fun q hq=>by rw [nZ,h2];exact hf q hq)
    ·simp only [List.getElem?_map,Option.map_eq_some_iff] at hq
     obtain ⟨q',e1,rfl⟩:=hq
     have hlt:q'<xs.length*C.sz t:=by have:=List.mem_of_getElem? e1;simpa using this
     obtain ⟨v,a1,a2⟩:=hcell q' hlt
     simp [f,a1,a2]
    ·have hi:=(List.getElem?_eq_some_iff.mp h1).1
     have hj:j<C.sz t:=by have:=(List.getElem?_eq_some_iff.mp h2).1;rwa [HC.len] at this
     obtain ⟨v,a1,a2⟩:=hrow i y j cl h1 h2
     refine ⟨v, ?_,a2⟩
     rw [List.getElem?_map,List.getElem?_range (pM hi hj)]
     simp only [Option.map_some,f]
     rw [←Nat.add_assoc,a1];rfl
theorem PI {zero:Array Value} {n q:Nat} (h:q<n*zero.size):∃v∈zero.toList,(Builtin.zeroCells zero n)[q]? =some v:=by
  have hz:0<zero.size:=by
    rcases Nat.eq_zero_or_pos zero.size with e | e
    ·rw [e] at h;omega
    ·exact e
  have hm:q%zero.size<zero.size:=Nat.mod_lt _ hz
  refine ⟨zero[q%zero.size],by simp, ?_⟩
  unfold Builtin.zeroCells
  rw [Array.getElem?_map,Array.getElem?_range,if_pos h]
  simp [hm]
theorem ao_ (HC:bH C) {t1 t2 e ty:TypeId} {t:κ} {ie:TypeInfo} {z:Value} {xs ys:List (Ty t)} (hu:P.underlying t1=some (.slice e)) {q:Value} {d2:TypeDesc} (hu2:P.underlying t2=some d2) (hd2:(∃te,d2= .slice te)∨d2= .string) (hl2:∀w:World,(Builtin.lenOf q).run P w= .ok ys.length w) (hi:P.info? e=some ie) (hs:ie.size=C.sz t) (hby:ie.bytes=C.by' t)
    (hz:ie.zero=some z) (hzs:z.cells.size=C.sz t)
    {A:Option Addr} {c:Nat} {old new:List Value}
    (hold:(Builtin.firstCells (C.sz t) xs.length (.slice A xs.length c)).run P w.drew= .ok old.toArray w.drew)
    (hnew0:(Builtin.firstCells (C.sz t) ys.length q).run P w= .ok new.toArray w)
    (hnew:(Builtin.firstCells (C.sz t) ys.length q).run P w.drew= .ok new.toArray w.drew)
    (hb:(xs.length+ys.length)*C.by' t≤140737488355328) (hb1:0<C.by' t):
    (xs.length+ys.length≤c→(Builtin.append_ #[t1,t2] ty #[.slice A xs.length c,q]).run P w=
        ((match A with | some a=>storeCells (a.add (xs.length*C.sz t)) new | none=>pure ()).run P w).andThen fun _ w'=> .ok (.slice A (xs.length+ys.length) c) w')∧
    (¬xs.length+ys.length≤c→∃nc,xs.length+ys.length≤nc∧(Builtin.append_ #[t1,t2] ty #[.slice A xs.length c,q]).run P w=
       .ok (.slice (some (at' w.heap.size 0)) (xs.length+ys.length) nc) (w.drew.alloc (.cells (old.toArray++new.toArray++Builtin.zeroCells z.cells (nc-(xs.length+ys.length))) e))):=by
  rcases hd2 with ⟨te,rfl⟩ | rfl
  all_goals
    have hneed:((xs.length+ys.length:Nat):Int)≤140737488355328:=by
      have:xs.length+ys.length≤(xs.length+ys.length)*C.by' t:=Nat.le_mul_of_pos_right _ hb1
      omega
    refine ⟨fun hle=> ?_,fun hgt=> ?_⟩
    ·simp only [Builtin.append_,List.getElem?_toArray,List.getElem?_cons_zero,List.getElem?_cons_succ,Sem.run_bind,run_underlying hu,run_underlying hu2,Result.andThen_ok,rP hi,hs,Sem.run_pure]
     simp only [Bool.false_eq_true,if_false,hl2,Sem.run_pure,Result.andThen_ok,hle,if_true,Bool.not_false,Sem.run_bind,hnew0]
     cases A with
     | none=>simp
     | some a=>simp
    ·refine ⟨(Question.appendCap (xs.length+ys.length) c e).cut (w.tape w.drawn (Question.appendCap (xs.length+ys.length) c e)), ?_, ?_⟩
     ·simp only [Question.cut];omega
     ·have hcap:=Z2 (need:=xs.length+ys.length) (old:=c) (by omega)
      have h1:¬(((xs.length+ys.length:Nat):Int)>IntKind.i64.max∧(ie.bytes=0)):=by rw [hby];omega
      have h2:¬(Builtin.nextslicecap (xs.length+ys.length) c*ie.bytes>2^48):=by
        rw [hby]
        have:=Nat.mul_le_mul_right (C.by' t) hcap
        rw [Nat.mul_assoc] at this
        have h48:(2:Nat)^48=281474976710656:=by decide
        omega
      simp only [Builtin.append_,List.getElem?_toArray,List.getElem?_cons_zero,List.getElem?_cons_succ,Sem.run_bind,run_underlying hu,run_underlying hu2,Result.andThen_ok,rP hi,hs,Sem.run_pure]
      simp only [Bool.false_eq_true,if_false,hl2,Sem.run_pure,Result.andThen_ok,hgt,Bool.not_false,if_true,Sem.run_bind,OW hi,false_or,h1,h2,run_choose,Question.forced,World.drew_eq,run_askRoom,hold,hnew]
      simp [zeroValue,OW hi,hz,newRow,World.alloc_eq,at']
theorem V0 (HC:bH C) {t:κ} {xs ys:List (Ty t)} {old new rest:List Value} (ho:old.length=xs.length*C.sz t) (hn:new.length=ys.length*C.sz t)
    (h1:∀i y j cl,xs[i]? =some y→(C.enc t y)[j]? =some cl→∃v,old[i*C.sz t+j]? =some v∧VRel C w Mut ρ objs cl v)
    (h2:∀i y j cl,ys[i]? =some y→(C.enc t y)[j]? =some cl→∃v,new[i*C.sz t+j]? =some v∧VRel C w Mut ρ objs cl v):
    ∀i y j cl,(xs++ys)[i]? =some y→(C.enc t y)[j]? =some cl→∃v,(old++new++rest)[i*C.sz t+j]? =some v∧VRel C w Mut ρ objs cl v:=by
  intro i y j cl hi hj
  have hjs:j<C.sz t:=by have:=(List.getElem?_eq_some_iff.mp hj).1;rwa [HC.len] at this
  by_cases hx:i<xs.length
  ·rw [List.getElem?_append_left hx] at hi
   obtain ⟨v,a1,a2⟩:=h1 i y j cl hi hj
   have:=pM hx hjs
   exact ⟨v,by rw [List.append_assoc,List.getElem?_append_left (by omega)];exact a1,a2⟩
  ·rw [List.getElem?_append_right (by omega)] at hi
   obtain ⟨v,a1,a2⟩:=h2 (i-xs.length) y j cl hi hj
   have hlt:=(List.getElem?_eq_some_iff.mp a1).1
   refine ⟨v, ?_,a2⟩
   have e:i*C.sz t+j-old.length=(i-xs.length)*C.sz t+j:=by
     rw [ho,Nat.sub_mul]
     have:=Nat.mul_le_mul_right (C.sz t) (show xs.length≤i by omega)
     omega
   have hge:old.length≤i*C.sz t+j:=by
     rw [ho]
     have:=Nat.mul_le_mul_right (C.sz t) (show xs.length≤i by omega)
     omega
   rw [List.append_assoc,List.getElem?_append_right hge,e,List.getElem?_append_left hlt];exact a1
structure Base (C:Cod κ Ty) (w:World) (Mut:Nat→Prop) (ρ:Nat→Loc) (objs objs1:aH κ Ty) (t:κ) (xs:List (Ty t)) (A:Option Addr) (c blk off:Nat):Prop where
  weak:Weaker objs objs1
  le:xs.length≤c
  at_:c≠0→A=some (at' blk off)∧blk<w.heap.size∧bJ ρ objs blk∧∀i,¬aG ρ objs1 i blk
  row:∀i y j cl,xs[i]? =some y→(C.enc t y)[j]? =some cl→∃v,w.cell? (at' blk (off+i*C.sz t+j))=some v∧VRel C w Mut ρ objs cl v
  room:∀q,q<c*C.sz t→∃v,w.cell? (at' blk (off+q))=some v∧bD v=true∧w.frozen? (at' blk (off+q))=false
  shk:ShK C w t blk c
structure NewSl (C:Cod κ Ty) (Mut:Nat→Prop) (t:κ) (xs:List (Ty t)) (o:AObj κ Ty) (vv:Nat→AV κ Ty):Prop where
  foot:∀(ρ:Nat→Loc) (objs:aH κ Ty) (id b:Nat),objs[id]? =some o→(ρ id).sub=noSub→aG ρ objs id b→(ρ id).cap≠0
  ob:∀(w:World) (ρ:Nat→Loc) (objs:aH κ Ty) (id:Nat),objs[id]? =some o→(ρ id).sub=noSub→SlAt C w Mut ρ objs (ρ id).block (ρ id).off (ρ id).cap t xs→ORel C w Mut ρ objs id
  val:∀(w:World) (ρ:Nat→Loc) (objs:aH κ Ty) (id:Nat) (A:Option Addr),objs[id]? =some o→((ρ id).cap≠0→A=some (at' (ρ id).block (ρ id).off))→VRel C w Mut ρ objs (vv id) (.slice A xs.length (ρ id).cap)
theorem NewSl.sl (t:κ) (xs:List (Ty t)):NewSl C Mut t xs (.sl t xs) .own where
  foot ρ objs id b e hs h:=by unfold aG at h;rw [e] at h;exact h.1
  ob w ρ objs id e hs h:=by unfold ORel;rw [e];exact h
  val w ρ objs id A e h:= .own e h
theorem NewSl.rp {t:κ} (hx:C.xcl t=true) (xs:List (Ty t)):NewSl C Mut t xs (.rp t xs 0) .rwv where
  foot ρ objs id b e hs h:=by
    unfold aG at h;rw [e] at h
    rcases h with h | ⟨q,h,_⟩
    ·exact h.1
    ·rw [hs] at h;exact absurd rfl h
  ob w ρ objs id e hs h:=by
   unfold ORel;rw [e]
   exact ⟨hx,h.1,h.2.1,fun i x j cl hx hj=>by
     obtain ⟨v,h1,h2⟩:=h.2.2.1 i x j cl hx hj
     exact ⟨v,h1,by rw [hs],h2⟩,h.2.2.2.1,fun q hq=>by rw [hs] at hq;exact absurd rfl hq,fun p q hq=>by rw [hs] at hq;exact absurd rfl hq,fun q hq=>by rw [hs] at hq;exact absurd rfl hq,fun q hq=>by rw [hs] at hq;exact absurd rfl hq⟩
  val w ρ objs id A e h:= .rwv (gO e) h
theorem CU (HC:bH C) (S:SRel C Mut Lent w0 ρ env objs tm w) {t1 t2 e ty:TypeId} {t:κ} {ie:TypeInfo} {z q:Value} {d2:TypeDesc} {xs ys:List (Ty t)} (hu:P.underlying t1=some (.slice e)) (hu2:P.underlying t2=some d2) (hd2:(∃te,d2= .slice te)∨d2= .string) (hl2:∀w:World,(Builtin.lenOf q).run P w= .ok ys.length w) (hi:P.info? e=some ie) (hs:ie.size=C.sz t) (hby:ie.bytes=C.by' t)
    (hz:ie.zero=some z) (hzs:z.cells.size=C.sz t) (hzc:∀v∈z.cells.toList,bD v=true) (hb1:0<C.by' t) (hk:C.shk t=true→e=C.sht)
    {A:Option Addr} {c blk off:Nat} (B:Base C w Mut ρ objs objs1 t xs A c blk off)
    (hnew:∃vs:List Value,vs.length=ys.length*C.sz t∧(∀w2:World,(∀a,w2.cell? a=w.cell? a)→(Builtin.firstCells (C.sz t) ys.length q).run P w2= .ok vs.toArray w2)∧(∀(p:Nat) (v:Value),vs[p]? =some v→bD v=true)∧
      ∀i y j cl,ys[i]? =some y→(C.enc t y)[j]? =some cl→∃v,vs[i*C.sz t+j]? =some v∧VRel C w Mut ρ objs cl v)
    (hb:(xs.length+ys.length)*C.by' t≤140737488355328) {o:AObj κ Ty} {vv:Nat→AV κ Ty} (N:NewSl C Mut t (xs++ys) o vv):
    ∃u w' ρ',(Builtin.append_ #[t1,t2] ty #[.slice A xs.length c,q]).run P w= .ok u w'∧SRel C Mut Lent w0 ρ' env (objs1++[o]) tm w'∧
     VRel C w' Mut ρ' (objs1++[o]) (vv objs1.length) u:=by
  have hAx:xs≠[]→A=some (at' blk off)∧blk<w.heap.size:=fun hne=>by
    have:=List.length_pos_iff.mpr hne
    have:=B.at_ (by have:=B.le;omega)
    exact ⟨this.1,this.2.1⟩
  obtain ⟨old,o1,o2,o3,o4⟩:=pH (P:=P) HC (c:=c) hAx B.row
  obtain ⟨new,n1,n2,n3,n4⟩:=hnew
  obtain ⟨r1,r2⟩:=ao_ (P:=P) (w:=w) HC (ty:=ty) hu hu2 hd2 hl2 hi hs hby hz hzs (o2 w.drew (fun _=>rfl)) (n2 w (fun _=>rfl)) (n2 w.drew (fun _=>rfl)) hb hb1
  have hlen1:=B.weak.1
  by_cases hle:xs.length+ys.length≤c
  ·have r1:=r1 hle
   by_cases hc0:c=0
   ·subst hc0
    have hx:xs=[]:=List.length_eq_zero_iff.mp (by omega)
    have hy:ys=[]:=List.length_eq_zero_iff.mp (by omega)
    subst hx;subst hy
    have hn0:new=[]:=List.length_eq_zero_iff.mp (by simpa using n1)
    subst hn0
    refine ⟨_,w,upd ρ objs1.length ⟨0,0,0,noSub⟩, ?_, ?_,N.val _ _ _ _ A (bW objs1 _) ?_⟩
    ·rw [r1,aV]
     cases A<;>simp [storeCells]
    ·refine S.take (w':=w) B.weak (o:=o) (l:=⟨0,0,0,noSub⟩) (fun b _ _=>rfl) (Nat.le_refl _) (.inr fun b hb=> ?_) (fun b _=>rfl) (fun W=> ?_) rfl rfl rfl
     ·exact N.foot _ _ _ _ (bW objs1 _) (by rw [aV]) hb (by rw [aV])
     ·refine N.ob _ _ _ _ (bW objs1 _) (by rw [aV]) ?_
      rw [aV]
      exact ⟨Nat.le_refl _,fun h=>absurd rfl h,fun i x j cl hx=>by simp at hx,fun q hq=>(by simp at hq), .zero⟩
    ·rw [aV];intro h;exact absurd rfl h
   ·obtain ⟨rfl,hblk,hfoot,hnone⟩:=B.at_ hc0
    have hst:=run_storeCells_cells (P:=P) blk (off+xs.length*C.sz t) new 0 w (fun j hj=>by
      obtain ⟨v,a1,_⟩:=B.room (xs.length*C.sz t+j) (by
        have:=Nat.mul_le_mul_right (C.sz t) hle
        rw [Nat.add_mul] at this;omega)
      rw [show (⟨blk,off+xs.length*C.sz t+0+j,none⟩:Addr)=at' blk (off+(xs.length*C.sz t+j)) by simp [at',Nat.add_assoc],a1];rfl) (fun j hj=>by
      obtain ⟨v,_,_,a3⟩:=B.room (xs.length*C.sz t+j) (by
        have:=Nat.mul_le_mul_right (C.sz t) hle
        rw [Nat.add_mul] at this;omega)
      rw [show (⟨blk,off+xs.length*C.sz t+0+j,none⟩:Addr)=at' blk (off+(xs.length*C.sz t+j)) by simp [at',Nat.add_assoc]];exact a3) (fun v hv=>by
      obtain ⟨q,hq⟩:=List.getElem?_of_mem hv
      exact EE (n3 q v hq))
    simp only [Nat.add_zero] at hst
    have hcell:=fun q=>m0 (w:=w) (b:=blk) (o:=off+xs.length*C.sz t) (vs:=new) (q:=q) (fun j hj=>by
      obtain ⟨v,a1,_⟩:=B.room (xs.length*C.sz t+j) (by
        have:=Nat.mul_le_mul_right (C.sz t) hle
        rw [Nat.add_mul] at this;omega)
      exact ⟨v,by rw [Nat.add_assoc];exact a1⟩)
    obtain ⟨s1,s2,s3⟩:=n5 blk new (off+xs.length*C.sz t) w
    refine ⟨.slice (some (at' blk off)) (xs.length+ys.length) c,w.setCells blk (off+xs.length*C.sz t) new,upd ρ objs1.length ⟨blk,off,c,noSub⟩, ?_, ?_, ?_⟩
    rotate_left
    ·refine S.take (w':=w.setCells blk (off+xs.length*C.sz t) new) B.weak (o:=o) (l:=⟨blk,off,c,noSub⟩) (fun b _ h=>b9 _ _ _ _ _ ?_) (by rw [cY];exact Nat.le_refl _) (.inl (.inr ⟨hfoot,hnone⟩)) (fun b hb=>b9 _ _ _ _ _ ?_) (fun W=> ?_) s1 s2 s3
     ·rcases h with h | h
      ·exact h
      ·rintro rfl;exact h hfoot
     ·rintro rfl;obtain ⟨i,hi⟩:=hb;exact hnone i hi
     ·refine N.ob _ _ _ _ (bW objs1 _) (by rw [aV]) ?_
      rw [aV]
      dsimp only
      refine ⟨by simpa using hle,fun _=>by rw [cY];exact hblk, ?_,fun q hq=> ?_,B.shk.mono fun hn=>⟨hn,lE _ _ _ _ _⟩⟩
      ·intro i x j cl hx hj
       have hjs:j<C.sz t:=by have:=(List.getElem?_eq_some_iff.mp hj).1;rwa [HC.len] at this
       have hcm:=eA (ρ:=ρ) B.weak o ⟨blk,off,c,noSub⟩
       by_cases hix:i<xs.length
       ·rw [List.getElem?_append_left hix] at hx
        obtain ⟨v,a1,a2⟩:=B.row i x j cl hx hj
        have:=pM hix hjs
        exact ⟨v,by rw [hcell,if_neg (by omega)];exact a1,a2.step W (by simp;omega) hcm⟩
       ·rw [List.getElem?_append_right (by omega)] at hx
        obtain ⟨v,a1,a2⟩:=n4 (i-xs.length) x j cl hx hj
        have hlt:=(List.getElem?_eq_some_iff.mp a1).1
        have hm:=Nat.mul_le_mul_right (C.sz t) (show xs.length≤i by omega)
        rw [Nat.sub_mul] at a1 hlt
        refine ⟨v, ?_,a2.step W (by simp;omega) hcm⟩
        rw [hcell,if_pos (by omega),←a1];congr 1;omega
      ·obtain ⟨v,a1,a2,a3⟩:=B.room q hq
       by_cases hin:off+xs.length*C.sz t≤off+q∧off+q<off+xs.length*C.sz t+new.length
       ·have hk:new[off+q-(off+xs.length*C.sz t)]? =some (new[off+q-(off+xs.length*C.sz t)]'(by omega)):=List.getElem?_eq_getElem _
        exact ⟨_,by rw [hcell,if_pos hin];exact hk,n3 _ _ hk,by rw [World.frozen?_setCells];exact a3⟩
       ·exact ⟨v,by rw [hcell,if_neg hin];exact a1,a2,by rw [World.frozen?_setCells];exact a3⟩
    ·have:=N.val (w.setCells blk (off+xs.length*C.sz t) new) (upd ρ objs1.length ⟨blk,off,c,noSub⟩) _ _ (some (at' blk off)) (bW objs1 o) (fun _=>by rw [aV])
     rw [aV,List.length_append] at this
     exact this
    ·rw [r1];dsimp only;rw [nZ];rw [show at' blk (off+xs.length*C.sz t)=⟨blk,off+xs.length*C.sz t,none⟩ from rfl,hst];rfl
  ·obtain ⟨nc,h1,r2⟩:=r2 hle
   refine ⟨_,_,upd ρ objs1.length ⟨w.heap.size,0,nc,noSub⟩,r2, ?_, ?_⟩
   ·refine S.take (w':=w.drew.alloc _) B.weak (o:=o) (l:=⟨w.heap.size,0,nc,noSub⟩) (fun b hb _=>cT w.drew _ hb) (by simp) (.inl (.inl (Nat.le_refl _))) (fun b ⟨i,hi⟩=>cT w.drew _ (S.flt (B.weak.foot hi))) (fun W=> ?_) rfl rfl rfl
    refine N.ob _ _ _ _ (bW objs1 _) (by rw [aV]) ?_
    rw [aV]
    have hcm:=eA (ρ:=ρ) B.weak o ⟨w.heap.size,0,nc,noSub⟩
    have hcells:∀(q:Nat),(w.drew.alloc (.cells (old.toArray++new.toArray++Builtin.zeroCells z.cells (nc-(xs.length+ys.length))) e)).cell? (at' w.heap.size (0+q))=(old++new++(Builtin.zeroCells z.cells (nc-(xs.length+ys.length))).toList)[q]? :=fun q=>by
      rw [Nat.zero_add]
      have:=World.cell?_alloc_new w.drew (old.toArray++new.toArray++Builtin.zeroCells z.cells (nc-(xs.length+ys.length))) e q
      simp only [World.size_drew] at this
      rw [at',this,←Array.getElem?_toList]
      simp
    refine ⟨by simpa using h1,fun _=>by simp, ?_,fun q hq=> ?_,fun h _=>⟨_,by
      have:=qW w.drew (old.toArray++new.toArray++Builtin.zeroCells z.cells (nc-(xs.length+ys.length))) e
      rw [hk h] at this⊢;exact this⟩⟩
    ·intro i x j cl hx hj
     obtain ⟨v,a1,a2⟩:=V0 (rest:=(Builtin.zeroCells z.cells (nc-(xs.length+ys.length))).toList) HC o1 n1 o4 n4 i x j cl hx hj
     have e0:0+i*C.sz t+j=0+(i*C.sz t+j):=Nat.add_assoc _ _ _
     refine ⟨v, ?_,a2.step W (by simp;omega) hcm⟩
     dsimp only
     rw [e0,hcells]
     exact a1
    ·dsimp only;rw [hcells]
     by_cases q1:q<old.length+new.length
     ·have hq':(old++new)[q]? =some ((old++new)[q]'(by simpa using q1)):=List.getElem?_eq_getElem _
      refine ⟨_,by rw [List.getElem?_append_left (by simpa using q1)];exact hq', ?_,by simp only [at',Nat.zero_add];exact World.frozen?_alloc_new w.drew _ _ _⟩
      by_cases q2:q<old.length
      ·rw [List.getElem?_append_left q2] at hq';exact o3 _ _ hq'
      ·rw [List.getElem?_append_right (by omega)] at hq';exact n3 _ _ hq'
     ·obtain ⟨v,b1,b2⟩:=PI (zero:=z.cells) (n:=nc-(xs.length+ys.length)) (q:=q-(old.length+new.length)) (by
        dsimp only at hq
        rw [hzs,Nat.sub_mul,Nat.add_mul];omega)
      exact ⟨v,by rw [List.getElem?_append_right (by simp;omega)];simpa using b2,hzc v b1,by simp only [at',Nat.zero_add];exact World.frozen?_alloc_new w.drew _ _ _⟩
   ·have:=N.val (w.drew.alloc (.cells (old.toArray++new.toArray++Builtin.zeroCells z.cells (nc-(xs.length+ys.length))) e)) (upd ρ objs1.length ⟨w.heap.size,0,nc,noSub⟩) _ _ (some (at' w.heap.size 0)) (bW objs1 o) (fun _=>by rw [aV])
    rw [aV,List.length_append] at this
    exact this
theorem wZ (HC:bH C) (S:SRel C Mut Lent w0 ρ env objs tm w) {t1 t2 e ty:TypeId} {t:κ} {ie:TypeInfo} {te:TypeId} {z:Value} (hu:P.underlying t1=some (.slice e)) (hu2:P.underlying t2=some (.slice te)) (hi:P.info? e=some ie) (hs:ie.size=C.sz t) (hby:ie.bytes=C.by' t)
    (hz:ie.zero=some z) (hzs:z.cells.size=C.sz t) (hzc:∀v∈z.cells.toList,bD v=true) (hb1:0<C.by' t) (hk:C.shk t=true→e=C.sht)
    {xs ys:List (Ty t)} {A A':Option Addr} {c c' blk off blk' off':Nat} (B:Base C w Mut ρ objs objs1 t xs A c blk off)
    (hA':ys≠[]→A'=some (at' blk' off')∧blk'<w.heap.size)
    (hrow':∀i y j cl,ys[i]? =some y→(C.enc t y)[j]? =some cl→∃v,w.cell? (at' blk' (off'+i*C.sz t+j))=some v∧VRel C w Mut ρ objs cl v)
    (hb:(xs.length+ys.length)*C.by' t≤140737488355328) {o:AObj κ Ty} {vv:Nat→AV κ Ty} (N:NewSl C Mut t (xs++ys) o vv):
    ∃u w' ρ',(Builtin.append_ #[t1,t2] ty #[.slice A xs.length c, .slice A' ys.length c']).run P w= .ok u w'∧SRel C Mut Lent w0 ρ' env (objs1++[o]) tm w'∧
     VRel C w' Mut ρ' (objs1++[o]) (vv objs1.length) u:=by
  exact CU HC S (q:= .slice A' ys.length c') hu hu2 (.inl ⟨_,rfl⟩) (fun w=>rfl) hi hs hby hz hzs hzc hb1 hk B (pH HC hA' hrow') hb N
end
end Km
namespace Km
open Go
variable {κ:Type} {Ty:κ→Type} {R:Type}
section
variable {P:Program} {C:Cod κ Ty} {T:TypeId→Option (TI κ Ty)}
variable {Mut:Nat→Prop} {Lent:Org κ Ty} {w0 w w':World} {ρ ρ':Nat→Loc} {env:Env κ Ty} {objs objs' objs1:aH κ Ty} {a:Act}
theorem HA {α:Type} {b:Nat} {xs ys zs:List α} (h:app b xs ys=some zs):zs=xs++ys∧(xs.length+ys.length)*b≤140737488355328:=by
  unfold app at h;split at h
  ·cases h;exact ⟨rfl,by assumption⟩
  ·cases h
theorem aR_ (HC:bH C) {s t:κ} {xs:List (Ty s)} {ys:List (Ty t)} (h:C.cast s t xs=some ys):∃e:s=t,e▸xs=ys:=HC.cast s t xs ys h
theorem tT (HC:bH C) {s t:κ} {xs:List (Ty s)} {K:List (Ty t)→Option R} {r:R} (h:(C.cast s t xs).bind K=some r):∃e:s=t,K (e▸xs)=some r:=by
  obtain ⟨ys,h1,h2⟩:=bind_some h
  obtain ⟨e,he⟩:=aR_ HC h1
  exact ⟨e,he▸h2⟩
theorem wA (HT:TOk P C T) {t:TypeId} {ti:TI κ Ty} {e:TypeId} {s:κ} (HE:∀t ti e s,T t=some ti→ti.shp= .slice e s→∃i z,P.info? e=some i∧i.zero=some z∧z.cells.size=C.sz s∧(∀v∈z.cells.toList,bD v=true)∧0<C.by' s) (ht:T t=some ti) (hs:ti.shp= .slice e s):
    ∃i z,P.underlying t=some (.slice e)∧P.info? e=some i∧i.size=C.sz s∧i.bytes=C.by' s∧i.zero=some z∧z.cells.size=C.sz s∧(∀v∈z.cells.toList,bD v=true)∧0<C.by' s:=by
  obtain ⟨h1,i,h2,h3,h4⟩:=HT.slice t ti e s ht hs
  obtain ⟨i',z,g1,g2,g3,g4,g5⟩:=HE t ti e s ht hs
  rw [h2] at g1;cases g1
  exact ⟨i,z,h1,h2,h3,h4,g2,g3,g4,g5⟩
def EOk (P:Program) (C:Cod κ Ty) (T:TypeId→Option (TI κ Ty)):Prop:=∀t ti e s,T t=some ti→ti.shp= .slice e s→∃i z,P.info? e=some i∧i.zero=some z∧z.cells.size=C.sz s∧(∀v∈z.cells.toList,bD v=true)∧0<C.by' s
theorem MO (HT:TOk P C T) (HE:EOk P C T) (HC:bH C) (S:SRel C Mut Lent w0 ρ env objs a.tmps w) {t1 t2 e1 ty:TypeId} {i1 i2:TI κ Ty} {s1:κ} (h1:T t1=some i1) (h2:T t2=some i2) (hs1:i1.shp= .slice e1 s1) (hs2:i2.shp= .str)
    {x y:AV κ Ty} {u q:Value} (hx:VRel C w Mut ρ objs x u) (hy:VRel C w Mut ρ objs y q) {K:AV κ Ty→aH κ Ty→Option R} {r:R} (h:sT C objs s1 x y K=some r):
    ∃v objs' u' w' ρ',K v objs'=some r∧(Builtin.append_ #[t1,t2] ty #[u,q]).run P w= .ok u' w'∧SRel C Mut Lent w0 ρ' env objs' a.tmps w'∧VRel C w' Mut ρ' objs' v u':=by
  obtain ⟨ie,z,b1,b2,b3,b4,b5,b6,b7,b8⟩:=wA HT HE h1 hs1
  have c1:=HT.str t2 i2 h2 hs2
  unfold sT at h
  split at h
  ·split at h
   ·rename_i s
    obtain ⟨ys,hys,h⟩:=bind_some h
    obtain ⟨rfl,_⟩:=a7 hy
    obtain ⟨o1,o2,o3⟩:=HC.ofb _ _ _ hys
    cases x with
    | own id=>
      dsimp only at h
      split at h
      ·rename_i t xs hsl
       replace h:=tT HC h
       obtain ⟨e,h⟩:=h
       subst e
       dsimp only at h
       replace h:=bind_some h
       obtain ⟨zs,hz,h⟩:=h
       obtain ⟨rfl,hb⟩:=HA hz
       have hsl':=cB hsl
       have ho:=S.ob id
       simp only [ORel,hsl'] at ho
       cases hx with
       | own g hA=>
         rw [hsl'] at g;cases g
         obtain ⟨u',w',ρ',g1,g2,g3⟩:=CU (P:=P) (ty:=ty) HC S (q:= .string s) (ys:=ys) b1 c1 (.inr rfl) (fun w=>by rw [o1];rfl) b2 b3 b4 b5 b6 b7 b8 (HT.own h1 hs1) (objs1:=objs.set id .dead) (xs:=xs) (c:=(ρ id).cap) (blk:=(ρ id).block) (off:=(ρ id).off)
           ⟨.kill objs id,ho.1,fun hc=>⟨hA hc,ho.2.1 hc,⟨id,dA hsl' hc⟩,fun i hi=>by
             obtain ⟨k1,k2⟩:=lH hi
             exact k1 (S.inj _ _ _ k2 (dA hsl' hc))⟩,ho.2.2.1,ho.2.2.2.1,ho.2.2.2.2⟩
           ⟨(s.data.map fun b=>Value.int .u8 b.toNat).toList,by rw [o3,o1];simp,fun w2 _=>by
             rw [o1]
             have:s.extract 0 s.size=s:=by apply ByteArray.ext;simp [ByteArray.data_extract]
             simp only [Builtin.firstCells,this,Sem.run_pure,Array.toArray_toList],fun p v hv=>by
             simp only [Array.toList_map,List.getElem?_map,Option.map_eq_some_iff] at hv
             obtain ⟨c,_,rfl⟩:=hv;rfl,fun i y j cl hi hj=>by
             obtain ⟨c,k1,k2⟩:=o2 i y hi
             rw [k2] at hj
             have hj0:j=0:=by
               cases j with
               | zero=>rfl
               | succ j=>simp at hj
             subst hj0
             simp only [List.getElem?_cons_zero,Option.some.injEq] at hj
             subst hj
             refine ⟨.int .u8 c.toNat, ?_, .lit rfl⟩
             rw [o3,Nat.mul_one,Nat.add_zero]
             simp only [Array.toList_map,List.getElem?_map]
             rw [Array.getElem?_toList,k1];rfl⟩ hb (.sl _ _)
         exact ⟨_,_,u',w',ρ',h,g1,g2,by simpa using g3⟩
       | ownd hcl hin g=>rw [g] at hsl;cases hsl
      ·cases h
    | _=>cases h
   ·cases h
  ·cases h
theorem PV (HT:TOk P C T) (HE:EOk P C T) (HC:bH C) (S:SRel C Mut Lent w0 ρ env objs a.tmps w) {t1 t2 e1 e2 ty:TypeId} {i1 i2:TI κ Ty} {s1 s2:κ} (h1:T t1=some i1) (h2:T t2=some i2) (hs1:i1.shp= .slice e1 s1) (hs2:i2.shp= .slice e2 s2)
    {x y:AV κ Ty} {u q:Value} (hx:VRel C w Mut ρ objs x u) (hy:VRel C w Mut ρ objs y q) {K:AV κ Ty→aH κ Ty→Option R} {r:R} (h:wP C objs s1 x y K=some r):
    ∃v objs' u' w' ρ',K v objs'=some r∧(Builtin.append_ #[t1,t2] ty #[u,q]).run P w= .ok u' w'∧SRel C Mut Lent w0 ρ' env objs' a.tmps w'∧VRel C w' Mut ρ' objs' v u':=by
  obtain ⟨ie,z,b1,b2,b3,b4,b5,b6,b7,b8⟩:=wA HT HE h1 hs1
  obtain ⟨c1,_⟩:=HT.slice t2 i2 e2 s2 h2 hs2
  unfold wP at h
  split at h
  ·cases h
  ·rename_i s ys hrow
   replace h:=tT HC h
   obtain ⟨e,h⟩:=h
   subst e
   dsimp only at h
   obtain ⟨A',c',blk',off',rfl,hle',hA',hrow'⟩:=tN HC S hy hrow
   split at h
   ·rename_i t
    replace h:=bind_some h
    obtain ⟨zs,hz,h⟩:=h
    obtain ⟨rfl,hb⟩:=HA hz
    cases hx with
    | @nil _ A0=>
    have ap:=fun (o:AObj κ Ty) (vv:Nat→AV κ Ty) N=>wZ (P:=P) (ty:=ty) HC S b1 c1 b2 b3 b4 b5 b6 b7 b8 (HT.own h1 hs1) (objs1:=objs) (xs:=[]) (A:=A0) (c:=0) (blk:=0) (off:=0)
      ⟨.refl _,Nat.le_refl _,fun h=>absurd rfl h,fun i y j cl h=>(by simp at h),fun q hq=>(by simp at hq), .zero⟩ hA' hrow' hb (c':=c') (o:=o) (vv:=vv) N
    split at h
    ·rename_i hxc
     simp only [Bool.and_eq_true] at hxc
     obtain ⟨u',w',ρ',g1,g2,g3⟩:=ap _ _ (.rp hxc.1 _)
     exact ⟨_,_,u',w',ρ',h,g1,g2,g3⟩
    ·obtain ⟨u',w',ρ',g1,g2,g3⟩:=ap _ _ (.sl _ _)
     exact ⟨_,_,u',w',ρ',h,g1,g2,g3⟩
   ·rename_i id
    split at h
    ·rename_i t xs hsl
     replace h:=tT HC h
     obtain ⟨e,h⟩:=h
     subst e
     dsimp only at h
     replace h:=bind_some h
     obtain ⟨zs,hz,h⟩:=h
     obtain ⟨rfl,hb⟩:=HA hz
     have hsl':=cB hsl
     have ho:=S.ob id
     simp only [ORel,hsl'] at ho
     cases hx with
     | own g hA=>
       rw [hsl'] at g;cases g
       obtain ⟨u',w',ρ',g1,g2,g3⟩:=wZ (P:=P) (ty:=ty) HC S b1 c1 b2 b3 b4 b5 b6 b7 b8 (HT.own h1 hs1) (objs1:=objs.set id .dead) (xs:=xs) (c:=(ρ id).cap) (blk:=(ρ id).block) (off:=(ρ id).off)
         ⟨.kill objs id,ho.1,fun hc=>⟨hA hc,ho.2.1 hc,⟨id,dA hsl' hc⟩,fun i hi=>by
           obtain ⟨k1,k2⟩:=lH hi
           exact k1 (S.inj _ _ _ k2 (dA hsl' hc))⟩,ho.2.2.1,ho.2.2.2.1,ho.2.2.2.2⟩ hA' hrow' hb (.sl _ _)
       exact ⟨_,_,u',w',ρ',h,g1,g2,by simpa using g3⟩
     | ownd hcl hin g=>rw [g] at hsl;cases hsl
    ·cases h
   ·rename_i id lo hi
    split at h
    ·rename_i t xs hsl
     replace h:=tT HC h
     obtain ⟨e,h⟩:=h
     subst e
     dsimp only at h
     replace h:=bind_some h
     obtain ⟨zs,hz,h⟩:=h
     obtain ⟨rfl,hb⟩:=HA hz
     have hsl':=cB hsl
     have ho:=S.ob id
     simp only [ORel,hsl'] at ho
     cases hx with
     | sub g hlo hhi hc hcap hA=>
       rename_i c _ _ A
       rw [hsl'] at g;cases g
       have hlen:=iG xs lo hi hhi
       obtain ⟨u',w',ρ',g1,g2,g3⟩:=wZ (P:=P) (ty:=ty) HC S b1 c1 b2 b3 b4 b5 b6 b7 b8 (HT.own h1 hs1) (objs1:=objs.set id .dead) (xs:=iA xs lo hi) (A:=A) (c:=c) (blk:=(ρ id).block) (off:=(ρ id).off+lo*C.sz t)
         ⟨.kill objs id,by omega,fun hc0=>by
           have hcp:(ρ id).cap≠0:=by omega
           exact ⟨hA hc0,ho.2.1 hcp,⟨id,dA hsl' hcp⟩,fun i hi=>by
             obtain ⟨k1,k2⟩:=lH hi
             exact k1 (S.inj _ _ _ k2 (dA hsl' hcp))⟩,fun i y j cl k1 k2=>by
           have:=ho.2.2.1 _ _ _ _ (xE k1).1 k2
           rwa [Nat.add_mul,←Nat.add_assoc] at this,fun q hq=>by
           have hm:=Nat.mul_le_mul_right (C.sz t) hcap
           rw [Nat.add_mul] at hm
           have:=ho.2.2.2.1 (lo*C.sz t+q) (by omega)
           rwa [←Nat.add_assoc] at this,ho.2.2.2.2.mono fun hn=>⟨by omega,rfl⟩⟩ hA' hrow' hb (.sl _ _)
       rw [hlen] at g1
       exact ⟨_,_,u',w',ρ',h,g1,g2,by simpa using g3⟩
     | subd hcl hin g=>rw [g] at hsl;cases hsl
    ·cases h
   ·cases h
end
end Km
namespace Km
open Go
variable {κ:Type} {Ty:κ→Type} {R:Type}
section
variable {P:Program} {C:Cod κ Ty} {T:TypeId→Option (TI κ Ty)}
variable {Mut:Nat→Prop} {Lent:Org κ Ty} {w0 w w':World} {ρ ρ':Nat→Loc} {env:Env κ Ty} {objs objs' objs1:aH κ Ty} {tm:Array Value}
theorem Parts.weaker (h:Weaker objs objs'):∀{ps:List (Nat×AV κ Ty)} {qs:List (Nat×Value)},Parts C w Mut ρ objs ps qs→Parts C w Mut ρ objs' ps qs
  | [],[],_=>trivial
  | (i,x)::ps,(j,u)::qs,⟨h1,h2,h3⟩=>⟨h1,h.rel h2,h3.weaker h⟩
theorem BD (HC:bH C) {t:κ}:∀(ps:List (Nat×AV κ Ty)) (qs:List (Nat×Value)) (us:Array Value) (objs:aH κ Ty) (K:List (Ty t)→aH κ Ty→Option R) (r:R) (n:Nat),
    SRel C Mut Lent w0 ρ env objs tm w→Parts C w Mut ρ objs ps qs→us.size=(n+ps.length)*C.sz t→G0 C t objs n ps K=some r→
    ∃ys objs' us',K ys objs'=some r∧SRel C Mut Lent w0 ρ env objs' tm w∧Weaker objs objs'∧Instr.fill (fun i=>some (i*C.sz t,C.sz t)) us qs=some us'∧us'.size=us.size∧ys.length=ps.length∧
     (∀q,q<n*C.sz t→us'[q]? =us[q]?)∧
     (∀(i:Nat) (y:Ty t) (j:Nat) (cl:AV κ Ty),ys[i]? =some y→(C.enc t y)[j]? =some cl→∃v,us'[(n+i)*C.sz t+j]? =some v∧VRel C w Mut ρ objs' cl v)∧
     (∀q,n*C.sz t≤q→q<us.size→∃v,us'[q]? =some v∧bD v=true)
  | [],[],us,objs,K,r,n,S,_,hsz,h=>by
    refine ⟨[],objs,us,h,S, .refl _,rfl,rfl,rfl,fun q _=>rfl,fun i y j cl hx=>by simp at hx,fun q h1 h2=> ?_⟩
    simp at hsz;omega
  | (i,x)::ps,(i',u)::qs,us,objs,K,r,n,S,hp,hsz,h=>by
    obtain ⟨rfl,hx,hrest⟩:=hp
    simp only [G0] at h
    split at h
    ·cases h
    ·rename_i hin
     have hin:=Nat.eq_of_beq_eq_true hin
     subst hin
     split at h
     ·cases h
     ·rename_i ns hns
      split at h
      ·cases h
      ·rename_i hl
       have hl:=Nat.eq_of_beq_eq_true hl
       have hc:=oP hns hx
       obtain ⟨ns',objs1,h,S1,hc1,hw1⟩:=o9 HC ns _ objs _ _ S hc h
       split at h
       ·rename_i y hdec
        have henc:=HC.dec _ _ _ hdec
        have husz:u.cells.size=C.sz t:=by have:=hc.1;simp at this;omega
        simp only [List.length_cons] at hsz
        have hle:i*C.sz t+C.sz t≤us.size:=by
          rw [hsz,show i+(ps.length+1)=(i+1)+ps.length by omega,Nat.add_mul (i+1),Nat.add_mul i 1];omega
        have hf:=BB u.cells.toList 0 us (i*C.sz t) (by simp;omega)
        simp only [Nat.add_zero] at hf
        generalize hus1:u.cells.zipIdx.foldl (fun cs (c,j)=>cs.setIfInBounds (i*C.sz t+j) c) us=us1
        have hus1':us1.toList=dD us.toList (i*C.sz t) u.cells.toList:=by
          rw [←hus1,←Array.foldl_toList,Array.toList_zipIdx];exact hf
        have hsz1:us1.size=us.size:=by
          have:=congrArg List.length hus1';rw [kG] at this;simpa using this
        have hget:∀q,us1[q]? =if i*C.sz t≤q∧q<i*C.sz t+C.sz t then u.cells[q-i*C.sz t]? else us[q]? :=fun q=>by
          rw [←Array.getElem?_toList,hus1',eT _ _ _ _ (by simp;omega)]
          simp [husz]
        obtain ⟨ys,objs',us',g1,g2,g3,g4,g5,g6,g7,g8,g9⟩:=BD HC ps qs us1 objs1 _ r (i+1) S1 (hrest.weaker hw1) (by rw [hsz1,hsz];congr 1;omega) h
        refine ⟨y::ys,objs',us',g1,g2,hw1.trans g3, ?_,by omega,by simp [g6],fun q hq=> ?_,fun k z j cl hk hj=> ?_,fun q hq1 hq2=> ?_⟩
        ·simp only [Instr.fill]
         rw [if_neg (by simp [husz];omega),hus1];exact g4
        ·rw [g7 q (by rw [Nat.add_mul];omega),hget,if_neg (by omega)]
        ·cases k with
         | zero=>
           simp only [List.getElem?_cons_zero,Option.some.injEq] at hk
           subst hk
           have hjs:j<C.sz t:=by have:=(List.getElem?_eq_some_iff.mp hj).1;rwa [HC.len] at this
           rw [henc] at hj
           have hu:u.cells.toList[j]? =some (u.cells.toList[j]'(by simp;omega)):=List.getElem?_eq_getElem _
           refine ⟨_, ?_,g3.rel (hc1.2.2 j cl _ hj hu)⟩
           rw [Nat.add_zero,g7 _ (by rw [Nat.add_mul];omega),hget,if_pos (by omega)]
           rw [show i*C.sz t+j-i*C.sz t=j by omega,←Array.getElem?_toList];exact hu
         | succ k=>
           obtain ⟨v,a1,a2⟩:=g8 k z j cl (by simpa using hk) hj
           exact ⟨v,by rw [←a1];congr 1;rw [show i+(k+1)=i+1+k by omega],a2⟩
        ·by_cases hq3:(i+1)*C.sz t≤q
         ·exact g9 q hq3 (by omega)
         ·rw [Nat.add_mul] at hq3
          have hu:u.cells.toList[q-i*C.sz t]? =some (u.cells.toList[q-i*C.sz t]'(by simp;omega)):=List.getElem?_eq_getElem _
          refine ⟨_, ?_,hc.2.1 _ _ hu⟩
          rw [g7 q (by rw [Nat.add_mul];omega),hget,if_pos (by omega),←Array.getElem?_toList];exact hu
       ·cases h
  | [],_::_,_,_,_,_,_,_,h,_,_=>h.elim
  | _::_,[],_,_,_,_,_,_,h,_,_=>h.elim
theorem GI (HT:TOk P C T) (HE:EOk P C T) (HC:bH C) (S:SRel C Mut Lent w0 ρ env objs tm w) {t e:TypeId} {ti:TI κ Ty} {s:κ} (ht:T t=some ti) (hs:ti.shp= .slice e s) {n:Nat} {ps:List (Nat×AV κ Ty)} {qs:List (Nat×Value)}
    (hp:Parts C w Mut ρ objs ps qs) (hn:ps.length=n) (hlim:n*C.sz s≤16777216) {K:List (Ty s)→aH κ Ty→Option R} {r:R} (h:G0 C s objs 0 ps K=some r):
    ∃ys objs1 u' w' ρ',K ys objs1=some r∧(Instr.buildSlice t n qs.toArray).run P w= .ok u' w'∧SRel C Mut Lent w0 ρ' env (objs1++[.sl s ys]) tm w'∧VRel C w' Mut ρ' (objs1++[.sl s ys]) (.own objs1.length) u':=by
  obtain ⟨ie,z,b1,b2,b3,b4,b5,b6,b7,b8⟩:=wA HT HE ht hs
  have hzv:(zeroValue e).run P w= .ok z w:=by simp [zeroValue,OW b2,b5]
  let us:Array Value:=(Array.range (n*C.sz s)).map fun i=>(if n*C.sz s=0 then #[] else z.cells)[i%(if n*C.sz s=0 then #[] else z.cells).size]!
  obtain ⟨ys,objs1,us',g1,g2,g3,g4,g5,g6,g7,g8,g9⟩:=BD HC ps qs us objs K r 0 S hp (by simp [us,hn]) h
  have hus:us.size=n*C.sz s:=by simp [us]
  refine ⟨ys,objs1, .slice (some (at' w.heap.size 0)) n n,w.alloc (.cells us' e),upd ρ objs1.length ⟨w.heap.size,0,n,noSub⟩,g1, ?_,g2.newSl e (HT.own ht hs) ⟨by omega,fun i x j cl hx hj=> ?_,fun q hq=> ?_⟩, ?_⟩
  ·have h24:¬(n*C.sz s>2^24):=by rw [show (2:Nat)^24=16777216 by decide];omega
   simp only [Instr.buildSlice,Sem.run_bind,run_underlying b1,Result.andThen_ok,rP b2,b3]
   rw [if_neg h24]
   simp only [Sem.run_bind,Sem.run_pure,Result.andThen_ok,Sem.run_ite,hzv]
   by_cases h0:n*C.sz s=0
   ·simp only [h0,if_true,Result.andThen_ok,List.toList_toArray]
    have e1:(Array.range 0).map (fun x=>(#[]:Array Value)[x%(#[]:Array Value).size]!)=us:=by simp [us,h0]
    rw [e1,g4]
    rfl
   ·simp only [h0,if_false,Result.andThen_ok,List.toList_toArray]
    have e1:(Array.range (n*C.sz s)).map (fun x=>z.cells[x%z.cells.size]!)=us:=by simp [us,h0]
    rw [e1,g4]
    rfl
  ·obtain ⟨v,a1,a2⟩:=g8 i x j cl hx hj
   exact ⟨v,by simpa using a1,a2⟩
  ·obtain ⟨v,a1,a2⟩:=g9 q (by omega) (by omega)
   exact ⟨v,a1,a2⟩
  ·have:=VRel.own (C:=C) (w:=w.alloc (.cells us' e)) (Mut:=Mut) (ρ:=upd ρ objs1.length ⟨w.heap.size,0,n,noSub⟩) (bW objs1 (.sl s ys)) (A:=some (at' w.heap.size 0)) (fun _=>by rw [aV])
   rw [aV,g6,hn] at this
   exact this
theorem IN {t:κ}:∀{ps:List (Nat×AV κ Ty)} {n:Nat} {ys:List (Ty t)} {objs:aH κ Ty} {K:List (Ty t)→aH κ Ty→Option R},ay_ C t n ps=some ys→G0 C t objs n ps K=K ys objs
  | [],n,ys,objs,K,h=>by cases h;rfl
  | (i,v)::ps,n,ys,objs,K,h=>by
    simp only [ay_] at h
    split at h
    ·cases h
    ·rename_i hb
     simp only [Bool.and_eq_true] at hb
     split at h
     ·rename_i u
      split at h
      ·rename_i y hy
       split at h
       ·rename_i zs hzs
        cases h
        have:=IN (objs:=objs) (K:=fun ys o=>K (y::ys) o) hzs
        simp only [G0,hb.1,cellsOf,List.length_cons,List.length_nil,Nat.zero_add,hb.2,jK,hy]
        exact this
       ·cases h
      ·cases h
     ·cases h
theorem EB (HT:TOk P C T) (HE:EOk P C T) (HC:bH C) (S:SRel C Mut Lent w0 ρ env objs tm w) {t e:TypeId} {ti:TI κ Ty} {s:κ} (ht:T t=some ti) (hs:ti.shp= .slice e s) {n:Nat} {ps:List (Nat×AV κ Ty)} {qs:List (Nat×Value)}
    (hp:Parts C w Mut ρ objs ps qs) (hn:ps.length=n) (hlim:n*C.sz s≤16777216) {ys:List (Ty s)} (h:ay_ C s 0 ps=some ys):
    ∃u' w',(Instr.buildSlice t n qs.toArray).run P w= .ok u' w'∧SRel C Mut Lent w0 ρ env objs tm w'∧VRel C w' Mut ρ objs (.inl (C.bor s) s ys) u':=by
  obtain ⟨ie,z,b1,b2,b3,b4,b5,b6,b7,b8⟩:=wA HT HE ht hs
  have hzv:(zeroValue e).run P w= .ok z w:=by simp [zeroValue,OW b2,b5]
  let us:Array Value:=(Array.range (n*C.sz s)).map fun i=>(if n*C.sz s=0 then #[] else z.cells)[i%(if n*C.sz s=0 then #[] else z.cells).size]!
  have h':=IN (objs:=objs) (K:=fun ys o=>some (ys,o)) h
  obtain ⟨ys1,objs1,us',g1,g2,g3,g4,g5,g6,g7,g8,g9⟩:=BD HC ps qs us objs _ _ 0 S hp (by simp [us,hn]) h'
  cases g1
  have hus:us.size=n*C.sz s:=by simp [us]
  have W:WStep w (w.alloc (.cells us' e)) (bJ ρ objs) (bJ ρ objs):=⟨fun b hb _=>cT w _ hb,by simp,fun b h=> .inl h⟩
  have hSR:=S.step W (Nat.le_refl _) (fun id=> .refl id) (fun id=>ORel.step W (Nat.le_refl _) (fun id=> .refl id) (S.ob id) rfl rfl (fun b hb=>cT w _ (S.flt hb))) (fun i j b hi hj=>S.inj i j b hi hj) rfl rfl rfl
  refine ⟨.slice (some (at' w.heap.size 0)) n n,w.alloc (.cells us' e), ?_,hSR, ?_⟩
  ·have h24:¬(n*C.sz s>2^24):=by rw [show (2:Nat)^24=16777216 by decide];omega
   simp only [Instr.buildSlice,Sem.run_bind,run_underlying b1,Result.andThen_ok,rP b2,b3]
   rw [if_neg h24]
   simp only [Sem.run_bind,Sem.run_pure,Result.andThen_ok,Sem.run_ite,hzv]
   by_cases h0:n*C.sz s=0
   ·simp only [h0,if_true,Result.andThen_ok,List.toList_toArray]
    have e1:(Array.range 0).map (fun x=>(#[]:Array Value)[x%(#[]:Array Value).size]!)=us:=by simp [us,h0]
    rw [e1,g4]
    rfl
   ·simp only [h0,if_false,Result.andThen_ok,List.toList_toArray]
    have e1:(Array.range (n*C.sz s)).map (fun x=>z.cells[x%z.cells.size]!)=us:=by simp [us,h0]
    rw [e1,g4]
    rfl
  ·have hcl:∀i x j cl,ys[i]? =some x→(C.enc s x)[j]? =some cl→∃v,(w.alloc (.cells us' e)).cell? (at' w.heap.size (0+i*C.sz s+j))=some v∧VRel C (w.alloc (.cells us' e)) Mut ρ objs cl v:=fun i x j cl hx hj=>by
     obtain ⟨v,a1,a2⟩:=g8 i x j cl hx hj
     refine ⟨v, ?_,a2.step W (Nat.le_refl _) (fun id=> .refl id)⟩
     simp only [Nat.zero_add] at a1⊢
     simp only [World.cell?_alloc_new];exact a1
   have hlen:ys.length=n:=by rw [g6,hn]
   rw [←hlen]
   refine .inl (blk:=w.heap.size) (off:=0) (vals:=fun i j=>((w.alloc (.cells us' e)).cell? (at' w.heap.size (0+i*C.sz s+j))).getD Go.undef) (fun hb=>hb) (Nat.le_refl _) (fun _=>⟨rfl,by simp, ?_⟩) (fun i x j cl hx hj=> ?_) (fun i x j cl hx hj=> ?_)
   ·rintro (hf | ⟨_,hm⟩)
    ·obtain ⟨i,hi⟩:=hf;have:=S.flt hi;omega
    ·have:=S.mlt _ hm;have:=S.size;omega
   ·obtain ⟨v,a1,_⟩:=hcl i x j cl hx hj
    rw [a1];rfl
   ·obtain ⟨v,a1,a2⟩:=hcl i x j cl hx hj
    rw [a1];exact a2
end
end Km
namespace Km
open Go
variable {κ:Type} {Ty:κ→Type} {R:Type}
section
variable {P:Program} {C:Cod κ Ty} {T:TypeId→Option (TI κ Ty)}
variable {Mut:Nat→Prop} {Lent:Org κ Ty} {w0 w w':World} {ρ ρ':Nat→Loc} {env:Env κ Ty} {objs objs' objs1:aH κ Ty} {tm:Array Value}
theorem X8 {α:Type} {l:List α}:∀(n q:Nat),q<n*l.length→(List.replicate n l).flatten[q]? =l[q%l.length]?
  | 0,q,h=>by simp at h
  | n+1,q,h=>by
    rw [List.replicate_succ,List.flatten_cons]
    have hl:0<l.length:=by
      rcases Nat.eq_zero_or_pos l.length with e | e
      ·rw [e] at h;simp at h
      ·exact e
    by_cases hq:q<l.length
    ·rw [List.getElem?_append_left hq,Nat.mod_eq_of_lt hq]
    ·rw [List.getElem?_append_right (by omega),X8 n (q-l.length) (by rw [Nat.add_mul] at h;omega),←Nat.mod_eq_sub_mod (by omega)]
theorem bX_ (HC:bH C) {s:κ} {z:Ty s} {n:Nat} {zc:List (AV κ Ty)} {us:Nat→Option Value} {vs:List Value} (hdec:C.enc s z=zc) (hc:Cells C w Mut ρ objs zc vs) (hu:∀q,q<n*C.sz s→us q=vs[q%C.sz s]?):
    YO C w Mut ρ objs s (List.replicate n z) n us:=by
  have hlen:vs.length=C.sz s:=by rw [hc.1,←hdec,HC.len]
  refine ⟨by simp,fun i x j cl hx hj=> ?_,fun q hq=> ?_⟩
  ·have hi:=(List.getElem?_eq_some_iff.mp hx).1
   simp at hi
   have hxz:x=z:=by rw [List.getElem?_replicate,if_pos hi] at hx;exact (Option.some.inj hx).symm
   subst hxz
   have hjs:j<C.sz s:=by have:=(List.getElem?_eq_some_iff.mp hj).1;rwa [HC.len] at this
   rw [hdec] at hj
   have hv:vs[j]? =some (vs[j]'(by omega)):=List.getElem?_eq_getElem _
   refine ⟨_, ?_,hc.2.2 j cl _ hj hv⟩
   rw [hu _ (pM hi hjs),Nat.mul_add_mod_of_lt hjs]
   exact hv
  ·have hp:0<C.sz s:=by
     rcases Nat.eq_zero_or_pos (C.sz s) with e | e
     ·rw [e] at hq;simp at hq
     ·exact e
   have hv:vs[q%C.sz s]? =some (vs[q%C.sz s]'(by rw [hlen];exact Nat.mod_lt _ hp)):=List.getElem?_eq_getElem _
   exact ⟨_,by rw [hu q hq];exact hv,hc.2.1 _ _ hv⟩
theorem bo_ {b:Nat} {n:Int} {m:Nat} (h:room b n=some m):0≤n∧n*b≤140737488355328∧m=n.toNat:=by
  unfold room at h;split at h
  ·cases h;exact ⟨by omega,by omega,rfl⟩
  ·cases h
theorem ZS {n:Int} (h0:0≤n) (h1:n≤140737488355328):IntKind.i64.wrap n=n:=by
  have e1:(2:Int)^IntKind.i64.bits=18446744073709551616:=by decide
  have e2:(2:Int)^(IntKind.i64.bits-1)=9223372036854775808:=by decide
  have e3:n%18446744073709551616=n:=by omega
  unfold IntKind.wrap
  simp only [e1,e2,e3]
  rw [if_neg (by simp;omega)]
theorem W3 {b0:Bool} {cs:List (AV κ Ty)} {us:List Value} (h:Cells C w Mut ρ objs cs us) (hall:cs.all (fun v=>match v with | .nil t=>b0 || !(C.bor t) | _=>true)=true):Cells C w Mut ρ objs (cs.map (Q8 b0)) us:=by
  obtain ⟨h1,h2,h3⟩:=h
  refine ⟨by simpa using h1,h2,fun j cl u hj hu=> ?_⟩
  simp only [List.getElem?_map,Option.map_eq_some_iff] at hj
  obtain ⟨c,hc,rfl⟩:=hj
  have hr:=h3 j c u hc hu
  have ha:=(List.all_eq_true.mp hall) c (List.mem_of_getElem? hc)
  by_cases hn:∃t,c= .nil t
  ·obtain ⟨t,rfl⟩:=hn
   cases hr
   exact .inl (xs:=[]) (blk:=0) (off:=0) (vals:=fun _ _=>Go.undef) (bO_ ha) (Nat.le_refl _) (fun h=>absurd rfl h) (fun i x j cl hx=>by simp at hx) (fun i x j cl hx=>by simp at hx)
  ·have:Q8 b0 c=c:=by cases c<;>first | rfl | exact absurd ⟨_,rfl⟩ hn
   rw [this];exact hr
theorem SRel.newRw (S:SRel C Mut Lent w0 ρ env objs tm w) {t:κ} {xs:List (Ty t)} {cap:Nat} {us:Array Value} (e:TypeId) (hx:C.xcl t=true) (le:xs.length≤cap)
    (row:∀i x j cl,xs[i]? =some x→(C.enc t x)[j]? =some cl→∃v,us[i*C.sz t+j]? =some v∧EntR C w Mut ρ objs (0,0,0) [cl] v)
    (room:∀q,q<cap*C.sz t→∃v,us[q]? =some v∧bD v=true):
    SRel C Mut Lent w0 (upd ρ objs.length ⟨w.heap.size,0,cap,noSub⟩) env (objs++[.rw t xs 0 none]) tm (w.alloc (.cells us e)):=by
  refine (S.fresh (o:= .rw t xs 0 none) (l:=⟨w.heap.size,0,cap,noSub⟩) (w':=w.alloc (.cells us e)) (fun b h=>cT w _ h) (by simp) (Nat.le_refl _) (fun W=> ?_) rfl rfl rfl).2
  unfold ORel
  rw [bW,aV]
  refine ⟨hx,le,fun _=>by simp,fun i x j cl hx hj=> ?_,fun q hq=> ?_,fun q hq=>absurd rfl hq,fun p q hq=>absurd rfl hq,fun q hq=>absurd rfl hq,fun q hq=>absurd rfl hq⟩
  ·obtain ⟨v,h1,h2⟩:=row i x j cl hx hj
   exact ⟨v,by simp only [at',Nat.zero_add,World.cell?_alloc_new];exact h1,EntR.step (L:=(0,0,0)) W (by simp) (jV _ _) h2 (fun b h=>absurd rfl h)⟩
  ·obtain ⟨v,h1,h2⟩:=room q hq
   exact ⟨v,by simp only [at',Nat.zero_add,World.cell?_alloc_new];exact h1,h2,by simp only [at',World.frozen?_alloc_new]⟩
theorem do_ {b0:Bool} {cs:List (AV κ Ty)} {us:List Value} (h:Cells C w Mut ρ objs cs us) (hn:L9 cs=true) (hd:∀c∈cs.map (Q8 b0),(∃v,c= .lit v)∨∃b s xs,c= .inl b s xs):
    ∀(j:Nat) c u,(cs.map (Q8 b0))[j]? =some c→us[j]? =some u→EntR C w Mut ρ objs (0,0,0) [c] u:=by
  intro j c u hj hu
  have hm:=hd c (List.mem_of_getElem? hj)
  simp only [List.getElem?_map,Option.map_eq_some_iff] at hj
  obtain ⟨c0,h0,rfl⟩:=hj
  have hr:=h.2.2 j c0 u h0 hu
  have hne:∀b s xs,c0≠ .inl b s xs:=T9 hn c0 (List.mem_of_getElem? h0)
  by_cases hnil:∃t,c0= .nil t
  ·obtain ⟨t,rfl⟩:=hnil
   cases hr
   exact ⟨_,rfl,fun hn=>absurd rfl hn,Nat.le_refl _,fun hn=>absurd rfl hn,fun i x j cl hx=>by simp at hx,fun q hq=>(by simp at hq), .zero⟩
  ·have e:Q8 b0 c0=c0:=by cases c0<;>first | rfl | exact absurd ⟨_,rfl⟩ hnil
   rw [e] at hm⊢
   rcases hm with ⟨v,rfl⟩ | ⟨b,s,xs,rfl⟩
   ·obtain ⟨e1,e2⟩:=a7 hr
    exact ⟨e1,e2,rfl⟩
   ·exact absurd rfl (hne _ _ _)
theorem KU (HT:TOk P C T) (HE:EOk P C T) (HC:bH C) (S:SRel C Mut Lent w0 ρ env objs tm w) {t e:TypeId} {ti te:TI κ Ty} {s:κ} (ht:T t=some ti) (hs:ti.shp= .slice e s) (hte:T e=some te) {k k':IntKind} {n:Int} {m:Nat} {z:Ty s}
    (hr:room (C.by' s) n=some m) (hdec:C.dec s (te.zero.map (Q8 (C.bor s)))=some z) (hall:te.zero.all (fun v=>match v with | .nil t=>C.bor s || !(C.bor t) | _=>true)=true):
    (∃u' w' ρ',(Instr.makeSlice t (.int k n) (.int k' n)).run P w= .ok u' w'∧SRel C Mut Lent w0 ρ' env (objs++[.sl s (List.replicate m z)]) tm w'∧VRel C w' Mut ρ' (objs++[.sl s (List.replicate m z)]) (.own objs.length) u')∧
    (C.xcl s=true→L9 te.zero=true→∃u' w' ρ',(Instr.makeSlice t (.int k n) (.int k' n)).run P w= .ok u' w'∧SRel C Mut Lent w0 ρ' env (objs++[.rw s (List.replicate m z) 0 none]) tm w'∧VRel C w' Mut ρ' (objs++[.rw s (List.replicate m z) 0 none]) (.rwv objs.length) u'):=by
  obtain ⟨ie,zv,b1,b2,b3,b4,b5,b6,b7,b8⟩:=wA HT HE ht hs
  obtain ⟨r1,r2,rfl⟩:=bo_ hr
  have hn:n≤140737488355328:=by
    have:n*1≤n*(C.by' s:Int):=Int.mul_le_mul_of_nonneg_left (by omega) r1
    omega
  have hw:=ZS r1 hn
  obtain ⟨z',q1,q2⟩:=tV (C:=C) (Mut:=Mut) (ρ:=ρ) (objs:=objs) HT hte w
  have hzz:z'=zv:=by
    have:(zeroValue e).run P w= .ok zv w:=by simp [zeroValue,OW b2,b5]
    rw [this] at q1;cases q1;rfl
  subst hzz
  have hb48:¬((ie.bytes:Int)*n>2^48):=by
    rw [b4,Int.mul_comm,show (2:Int)^48=281474976710656 by decide];omega
  have hrun:(Instr.makeSlice t (.int k n) (.int k' n)).run P w= .ok (.slice (some (at' w.heap.size 0)) n.toNat n.toNat) (w.alloc (.cells ((Array.range (n.toNat*C.sz s)).map fun i=>z'.cells[i%z'.cells.size]!) e)):=by
    simp only [Instr.makeSlice,Sem.run_bind,run_underlying b1,Result.andThen_ok,asInt,asIntOf,Sem.run_pure,OW b2,hw]
    rw [if_neg (by simp;omega)]
    simp only [Sem.run_bind,run_askRoom,Result.andThen_ok,rP b2,b3]
    by_cases h0:n.toNat*C.sz s=0
    ·simp only [h0,if_true,Sem.run_pure,Result.andThen_ok,Sem.run_bind]
     have e0:Array.range 0= #[]:=rfl
     simp [newRow,World.alloc_eq,at',e0]
    ·simp only [h0,if_false,Sem.run_bind,q1,Sem.run_pure,Result.andThen_ok]
     simp [newRow,World.alloc_eq,at']
  have hcells:∀q,q<n.toNat*C.sz s→((Array.range (n.toNat*C.sz s)).map fun i=>z'.cells[i%z'.cells.size]!)[q]? =z'.cells.toList[q%C.sz s]? :=fun q hq=>by
    rw [Array.getElem?_map,Array.getElem?_range,if_pos hq]
    have hp:0<C.sz s:=by
      rcases Nat.eq_zero_or_pos (C.sz s) with e | e
      ·rw [e] at hq;simp at hq
      ·exact e
    have hm:=Nat.mod_lt q hp
    simp [b6,hm]
  have hR:=bX_ (n:=n.toNat) HC (HC.dec _ _ _ hdec) (W3 q2 hall) hcells
  refine ⟨⟨_,_,upd ρ objs.length ⟨w.heap.size,0,n.toNat,noSub⟩,hrun,S.newSl e (HT.own ht hs) hR, ?_⟩,fun hxc hni=>⟨_,_,upd ρ objs.length ⟨w.heap.size,0,n.toNat,noSub⟩,hrun,S.newRw e hxc hR.le (fun i x j cl hx hj=> ?_) hR.room, ?_⟩⟩
  rotate_left
  ·have hi:=(List.getElem?_eq_some_iff.mp hx).1
   simp at hi
   have hxz:x=z:=by rw [List.getElem?_replicate,if_pos (by omega)] at hx;exact (Option.some.inj hx).symm
   subst hxz
   have hjs:j<C.sz s:=by have:=(List.getElem?_eq_some_iff.mp hj).1;rwa [HC.len] at this
   have henc:=HC.dec _ _ _ hdec
   have hze:=do_ q2 hni (b0:=C.bor s) (fun c hc=>by
     rw [←henc] at hc
     exact (HC.deep _ _ _ hc).imp id fun ⟨s',xs',e,_⟩=>⟨_,s',xs',e⟩)
   have hv:z'.cells.toList[j]? =some (z'.cells.toList[j]'(by simp [b6,hjs])):=List.getElem?_eq_getElem _
   refine ⟨_, ?_,hze j cl _ (by rw [←henc];exact hj) hv⟩
   rw [hcells _ (pM (by omega) hjs),Nat.mul_add_mod_of_lt hjs]
   exact hv
  ·have:=VRel.rwv (C:=C) (w:=w.alloc (.cells ((Array.range (n.toNat*C.sz s)).map fun i=>z'.cells[i%z'.cells.size]!) e)) (Mut:=Mut) (ρ:=upd ρ objs.length ⟨w.heap.size,0,n.toNat,noSub⟩) (cO (bW objs (.rw s (List.replicate n.toNat z) 0 none))) (A:=some (at' w.heap.size 0)) (fun _=>by rw [aV])
   rw [aV,List.length_replicate] at this
   exact this
  ·have:=VRel.own (C:=C) (w:=w.alloc (.cells ((Array.range (n.toNat*C.sz s)).map fun i=>z'.cells[i%z'.cells.size]!) e)) (Mut:=Mut) (ρ:=upd ρ objs.length ⟨w.heap.size,0,n.toNat,noSub⟩) (bW objs (.sl s (List.replicate n.toNat z))) (A:=some (at' w.heap.size 0)) (fun _=>by rw [aV])
   rw [aV,List.length_replicate] at this
   exact this
theorem tE (HT:TOk P C T) (S:SRel C Mut Lent w0 ρ env objs tm w) {t:TypeId} {ti:TI κ Ty} (ht:T t=some ti) (hs:bsh ti.zero=true→t=C.bt∧gI_ ti.zero=true):
    ∃u' w' ρ',(Instr.alloc t true (.tuple #[])).run P w= .ok u' w'∧SRel C Mut Lent w0 ρ' env (objs++[.box ti.zero]) tm w'∧VRel C w' Mut ρ' (objs++[.box ti.zero]) (.ref objs.length 0) u':=by
  obtain ⟨z,q1,q2⟩:=tV (C:=C) (Mut:=Mut) (ρ:=ρ) (objs:=objs) HT ht w
  refine ⟨.pointer (some (at' w.heap.size 0)),w.alloc (.cells z.cells t),_, ?_,S.newBox t (fun h=>(hs h).1) (fun h=>cg_ HT ht w q1 (hs (W8 h)).2) q2, ?_⟩
  ·simp [Instr.alloc,q1,newVar,newRow,World.alloc_eq,at']
  ·have:=VRel.ref (C:=C) (w:=w.alloc (.cells z.cells t)) (Mut:=Mut) (ρ:=upd ρ objs.length ⟨w.heap.size,0,0,noSub⟩) (off:=0) (bW objs (.box ti.zero))
   rw [aV] at this
   exact this
theorem M0 (HT:TOk P C T) (HC:bH C) (S:SRel C Mut Lent w0 ρ env objs tm w) {t e:TypeId} {ti te:TI κ Ty} {s:κ} {n:Nat} {z:Ty s} (ht:T t=some ti) (hs:ti.shp= .arr n e s) (hte:T e=some te) (hn:1≤n) (hdec:C.dec s te.zero=some z):
    ∃u' w' ρ',(Instr.alloc t true (.tuple #[])).run P w= .ok u' w'∧SRel C Mut Lent w0 ρ' env (objs++[.sl s (List.replicate n z)]) tm w'∧VRel C w' Mut ρ' (objs++[.sl s (List.replicate n z)]) (.eref objs.length 0 0) u':=by
  obtain ⟨zv,q1,q2⟩:=tV (C:=C) (Mut:=Mut) (ρ:=ρ) (objs:=objs) HT ht w
  obtain ⟨zo,p1,p2⟩:=tV (C:=C) (Mut:=Mut) (ρ:=ρ) (objs:=objs) HT hte w
  obtain ⟨h1,_,te',h2,h3,h4⟩:=HT.arr t ti n e s ht hs
  rw [hte] at h2;cases h2
  have hl:zv.cells.toList.length=n*C.sz s:=by rw [q2.1,h4];simp [h3]
  have hz:∀q,q<n*C.sz s→ti.zero[q]? =te.zero[q%C.sz s]? :=fun q hq=>by rw [h4,X8 n q (by rw [h3];exact hq),h3]
  refine ⟨.pointer (some (at' w.heap.size 0)),w.alloc (.cells zv.cells t),_, ?_,S.newSl t (fun h=>HT.noArr ht hs h) (cap:=n) ⟨by simp,fun i x j cl hx hj=> ?_,fun q hq=> ?_⟩, ?_⟩
  ·simp [Instr.alloc,q1,newVar,newRow,World.alloc_eq,at']
  ·have hi:=(List.getElem?_eq_some_iff.mp hx).1
   simp at hi
   have hxz:x=z:=by rw [List.getElem?_replicate,if_pos hi] at hx;exact (Option.some.inj hx).symm
   subst hxz
   have hjs:j<C.sz s:=by have:=(List.getElem?_eq_some_iff.mp hj).1;rwa [HC.len] at this
   rw [HC.dec _ _ _ hdec] at hj
   have hlt:=pM (n:=n) hi hjs
   have hzq:=hz _ hlt
   rw [Nat.mul_add_mod_of_lt hjs,hj] at hzq
   have hv:zv.cells.toList[i*C.sz s+j]? =some (zv.cells.toList[i*C.sz s+j]'(by rw [hl];exact hlt)):=List.getElem?_eq_getElem _
   exact ⟨_,by rw [←Array.getElem?_toList];exact hv,q2.2.2 _ cl _ hzq hv⟩
  ·have hv:zv.cells.toList[q]? =some (zv.cells.toList[q]'(by rw [hl];exact hq)):=List.getElem?_eq_getElem _
   exact ⟨_,by rw [←Array.getElem?_toList];exact hv,q2.2.1 _ _ hv⟩
  ·have:=VRel.eref (C:=C) (w:=w.alloc (.cells zv.cells t)) (Mut:=Mut) (ρ:=upd ρ objs.length ⟨w.heap.size,0,n,noSub⟩) (i:=0) (off:=0) (bW objs (.sl s (List.replicate n z))) (by simp;omega)
   rw [aV] at this
   simpa using this
end
end Km
namespace Km
open Go
variable {κ:Type} {Ty:κ→Type} {R:Type}
section
variable {P:Program} {C:Cod κ Ty} {T:TypeId→Option (TI κ Ty)}
variable {Mut:Nat→Prop} {Lent:Org κ Ty} {w0 w w':World} {ρ ρ':Nat→Loc} {env:Env κ Ty} {objs objs':aH κ Ty} {a:Act}
theorem ZX (HC:bH C) (S:SRel C Mut Lent w0 ρ env objs a.tmps w) {x:AV κ Ty} {u:Value} {t:κ} {xs:List (Ty t)} {bs:List Int} (hx:VRel C w Mut ρ objs x u) (h:tO objs x=some ⟨t,xs⟩) (hb:C.bytes t xs=some bs):
    ∃A n c,u= .slice A n c∧(Conv.bytesToString u).run P w= .ok (.string (mD bs)) w:=by
  obtain ⟨A,c,blk,off,rfl,hc,hA,hcell⟩:=tN HC S hx h
  obtain ⟨hlen,hrow⟩:=HC.bytes t xs bs hb
  refine ⟨_,_,_,rfl, ?_⟩
  by_cases hne:xs=[]
  ·subst hne
   have:bs=[]:=List.length_eq_zero_iff.mp (by simpa using hlen)
   subst this
   cases A with
   | none=>simp [Conv.bytesToString,mD]
   | some A=>
     exact run_bytesToString w A 0 c [] (by simpa using run_loadCells_list (P:=P) (w:=w) A [] (by simp))
  ·obtain ⟨rfl,hlt⟩:=hA hne
   have hsz:C.sz t=1:=by
     obtain ⟨y,ys,rfl⟩:=List.exists_cons_of_ne_nil hne
     obtain ⟨b,bs',rfl⟩:∃b bs',bs=b::bs':=by cases bs with | nil=>simp at hlen | cons b bs'=>exact ⟨b,bs',rfl⟩
     rw [←HC.len t y,hrow 0 y b rfl rfl];rfl
   have:=run_loadCells_list (P:=P) (w:=w) (at' blk off) (bs.map (Value.int .u8)) (fun j v hj=>by
     simp only [List.getElem?_map,Option.map_eq_some_iff] at hj
     obtain ⟨b,hj,rfl⟩:=hj
     have hjl:=(List.getElem?_eq_some_iff.mp hj).1
     have hy:xs[j]? =some (xs[j]'(by omega)):=List.getElem?_eq_getElem _
     have he:=hrow j _ b hy hj
     obtain ⟨v,g1,g2⟩:=hcell j _ 0 (.lit (.int .u8 b)) hy (by rw [he];rfl)
     obtain ⟨rfl,_⟩:=a7 g2
     rw [nZ,←g1,hsz];congr 2;omega)
   rw [List.length_map,hlen] at this
   exact run_bytesToString w _ _ c bs this
end
end Km
namespace Km
open Go
variable {κ:Type} {Ty:κ→Type} {R:Type}
section
variable {P:Program} {C:Cod κ Ty} {T:TypeId→Option (TI κ Ty)}
variable {Mut:Nat→Prop} {Lent:Org κ Ty} {w0 w w':World} {ρ ρ':Nat→Loc} {env:Env κ Ty} {objs objs':aH κ Ty} {a:Act} {tm:Array Value}
theorem IQ (HT:TOk P C T) {d m:Nat} {xs ys:List (AV κ Ty)} {us qs:List Value} (hx:Cells C w Mut ρ objs xs us) (hy:Cells C w Mut ρ objs ys qs)
    (hE:∀(t:TypeId) (x y:AV κ Ty) (u q:Value) (b:Bool),aeq T d t x y=some b→VRel C w Mut ρ objs x u→VRel C w Mut ρ objs y q→(Op.equalIn (d+m) t u q).run P w= .ok b w):
    ∀ (fs : List Field) (b : Bool), (∀ f ∈ fs, f.name ≠ "_") → cd_ T (aeq T d) (fs.map fun f => (f.offset, f.type)) xs ys = some b → (Op.eqFields (d + m) us.toArray qs.toArray fs).run P w = .ok b w
  | [],b,_,h=>by cases h;rfl
  | f::fs,b,hn,h=>by
    simp only [List.map_cons,cd_] at h
    split at h
    ·rename_i ti ht
     split at h
     ·rename_i p q hp hq
      split at h
      ·rename_i r hr
       split at h
       ·rename_i r' hr'
        cases h
        obtain ⟨u,u1,u2⟩:=yJ (P:=P) HT ht hx hp
        obtain ⟨v,v1,v2⟩:=yJ (P:=P) HT ht hy hq
        have he:=hE _ _ _ _ _ _ hr u2 v2
        have hrest:=IQ HT hx hy hE fs r' (fun g hg=>hn g (List.mem_cons_of_mem _ hg)) hr'
        simp only [Op.eqFields]
        rw [if_pos (hn f (List.mem_cons_self ..))]
        simp only [Sem.run_bind,u1,v1,he,Result.andThen_ok]
        cases r
        ·simp
        ·simpa using hrest
       ·cases h
      ·cases h
     ·cases h
    ·cases h
theorem JU (HT:TOk P C T):∀(d m:Nat) (t:TypeId) (x y:AV κ Ty) (u q:Value) (b:Bool),aeq T d t x y=some b→VRel C w Mut ρ objs x u→VRel C w Mut ρ objs y q→(Op.equalIn (d+m) t u q).run P w= .ok b w
  | 0,m,t,x,y,u,q,b,h,_,_=>by cases h
  | d+1,m,t,x,y,u,q,b,h,hx,hy=>by
    rw [show d+1+m=d+m+1 by omega]
    unfold aeq at h
    split at h
    ·cases h
    ·rename_i ti ht
     split at h
     ·rename_i k0 hs
      split at h
      ·split at h
       ·rename_i k p k' q' hk
        have hk:=of_decide_eq_true hk
        subst hk
        obtain ⟨rfl,_⟩:=a7 hx
        obtain ⟨rfl,_⟩:=a7 hy
        cases h
        exact run_equalIn_int w _ t _ _ _ _ (HT.int t ti _ ht hs)
       ·cases h
      ·cases h
     ·rename_i hs
      split at h
      ·obtain ⟨rfl,_⟩:=a7 hx
       obtain ⟨rfl,_⟩:=a7 hy
       cases h
       exact bF_ (HT.bool t ti ht hs) _ _ _
      ·cases h
     ·rename_i hs
      split at h
      ·obtain ⟨rfl,_⟩:=a7 hx
       obtain ⟨rfl,_⟩:=a7 hy
       cases h
       exact run_equalIn_string w _ t _ _ (HT.str t ti ht hs)
      ·cases h
     ·rename_i fs hs
      split at h
      ·rename_i xs ys
       obtain ⟨fields,hu,hfs,_⟩:=HT.struct t ti fs ht hs
       obtain ⟨hst,_,hnm⟩:=HT.seq t ti fs ht hs
       have hxc:=oP (C:=C) (w:=w) (Mut:=Mut) (ρ:=ρ) (objs:=objs) (x:= .agg xs) rfl hx
       have hyc:=oP (C:=C) (w:=w) (Mut:=Mut) (ρ:=ρ) (objs:=objs) (x:= .agg ys) rfl hy
       have hfd:P.fieldsOf t=fields:=by simp [Program.fieldsOf,hu]
       cases hx with
       | agg l1 c1 r1=>
         cases hy with
         | agg l2 c2 r2=>
           rename_i us qs
           rw [run_equalIn_struct w _ t _ _ (by rw [hfd];exact hu) hst,hfd]
           refine IQ HT ⟨l1,c1,r1⟩ ⟨l2,c2,r2⟩ (fun t x y u q b h1 h2 h3=>JU HT d m t x y u q b h1 h2 h3) fields.toList b (fun f hf=>hnm fields hu f hf) (by rw [hfs];exact h)
      ·cases h
     ·cases h
theorem Z3 (HT:TOk P C T) {t:TypeId} {ti:TI κ Ty} (ht:T t=some ti) (ha:ti.agg=true) {x y:AV κ Ty} {u q:Value} (ox oy:Operand) (hx:VRel C w Mut ρ objs x u) (hy:VRel C w Mut ρ objs y q) {b:Bool} (h:aeq T 8 t x y=some b):
    (do eqGuard .eql t ox oy u q;binOp .eql t u q:Sem Value).run P w= .ok (.bool b) w∧(do eqGuard .neq t ox oy u q;binOp .neq t u q:Sem Value).run P w= .ok (.bool (!b)) w:=by
  have he:=JU (P:=P) HT 8 9992 t x y u q b h hx hy
  have hs:∃fs,ti.shp= .struct fs:=by
    unfold aeq at h
    rw [ht] at h
    simp only [TI.agg] at ha
    split at ha<;>rename_i hs
    ·exact ⟨_,hs⟩
    ·dsimp only at h;rw [hs] at h;cases h
    ·cases ha
  obtain ⟨fs,hs⟩:=hs
  obtain ⟨_,hg,_⟩:=HT.seq t ti fs ht hs
  have hxa:(∃xs,x= .agg xs)∧∃ys,y= .agg ys:=by
    unfold aeq at h
    rw [ht] at h;dsimp only at h
    rw [hs] at h;dsimp only at h
    split at h
    ·exact ⟨⟨_,rfl⟩,_,rfl⟩
    ·cases h
  obtain ⟨⟨xs,rfl⟩,ys,rfl⟩:=hxa
  cases hx with
  | agg l1 c1 r1=>
    cases hy with
    | agg l2 c2 r2=>
      rename_i us qs
      constructor
      ·rw [Sem.run_bind,run_eqGuard_agg (P:=P) w _ t ox oy _ _ hg,Result.andThen_ok,run_eql_struct]
       rw [show (10000:Nat)=8+9992 from rfl,he];rfl
      ·rw [Sem.run_bind,run_eqGuard_agg (P:=P) w _ t ox oy _ _ hg,Result.andThen_ok,run_neq_struct]
       rw [show (10000:Nat)=8+9992 from rfl,he];rfl
theorem SRel.newSlF (S:SRel C Mut Lent w0 ρ env objs tm w) {t:κ} {xs:List (Ty t)} {cap:Nat} {us:Array Value} (e:TypeId) {f1 f2:Nat} (hk:C.shk t=true→e=C.sht) (hf:cap*C.sz t≤f1) (hr:YO C w Mut ρ objs t xs cap (fun q=>us[q]?)):
    SRel C Mut Lent w0 (upd ρ objs.length ⟨w.heap.size,0,cap,noSub⟩) env (objs++[.sl t xs]) tm (w.alloc (.cells us e (f1,f2))):=by
  refine (S.fresh (o:= .sl t xs) (l:=⟨w.heap.size,0,cap,noSub⟩) (w':=w.alloc (.cells us e (f1,f2))) (fun b h=>cT w _ h) (by simp) (Nat.le_refl _) (fun W=> ?_) rfl rfl rfl).2
  have hnew:(w.alloc (.cells us e (f1,f2))).heap[w.heap.size]? =some (.cells us e (f1,f2)):=by
    show (w.heap.push (.cells us e (f1,f2)))[w.heap.size]? =_
    simp
  have hcell:∀q,(w.alloc (.cells us e (f1,f2))).cell? (at' w.heap.size q)=us[q]? :=fun q=>by
    simp only [World.cell?,at',hnew];rfl
  unfold ORel
  rw [bW,aV]
  refine ⟨hr.le,fun _=>by simp,fun i x j cl hx hj=> ?_,fun q hq=> ?_,fun h _=>⟨us.size,by simp only [World.shape?,hnew];rw [hk h]⟩⟩
  ·obtain ⟨v,h1,h2⟩:=hr.row i x j cl hx hj
   exact ⟨v,by simp only [Nat.zero_add];rw [hcell];exact h1,h2.step W (by simp) (jV _ _)⟩
  ·obtain ⟨v,h1,h2⟩:=hr.room q hq
   refine ⟨v,by simp only [Nat.zero_add];rw [hcell];exact h1,h2, ?_⟩
   simp only [World.frozen?,at',hnew,Nat.zero_add]
   have hq':q<cap*C.sz t:=hq
   simp;omega
theorem L4 (HT:TOk P C T) (HC:bH C) (S:SRel C Mut Lent w0 ρ env objs tm w) {src dst e:TypeId} {ti td te:TI κ Ty} {s:κ} (h1:T src=some ti) (hs1:ti.shp= .str) (h2:T dst=some td) (hs2:td.shp= .slice e s)
    (h3:T e=some te) (hs3:te.shp= .int .u8) {b:ByteArray} {ys:List (Ty s)} (hb:C.ofb s b=some ys):
    ∃u' w' ρ',(convert src dst (.string b)).run P w= .ok u' w'∧SRel C Mut Lent w0 ρ' env (objs++[.sl s ys]) tm w'∧VRel C w' Mut ρ' (objs++[.sl s ys]) (.own objs.length) u':=by
  obtain ⟨hsl,ie,i1,i2,i3⟩:=HT.slice dst td e s h2 hs2
  have hu8:=HT.int e te _ h3 hs3
  have hstr:=HT.str src ti h1 hs1
  obtain ⟨hlen,hrow,hsz⟩:=HC.ofb s b ys hb
  have hrun:=run_bytes_of_string w src dst e b hstr hsl hu8
  have hcap:b.size≤grownCap w b.size 0 e:=(grownCap_ge w b.size 0 e)
  have S':=S.drew
  have hR:YO C w.drew Mut ρ objs s ys (grownCap w b.size 0 e) (fun q=>(bytesRow b (grownCap w b.size 0 e))[q]?):=by
    refine ⟨by rw [hlen];exact hcap,fun i x j cl hx hj=> ?_,fun q hq=> ?_⟩
    ·obtain ⟨c,c1,c2⟩:=hrow i x hx
     have hjl:=(List.getElem?_eq_some_iff.mp hj).1
     rw [HC.len,hsz] at hjl
     obtain rfl:j=0:=by omega
     rw [c2] at hj;cases hj
     refine ⟨_, ?_, .lit rfl⟩
     have hlt:=(Array.getElem?_eq_some_iff.mp c1).1
     simp only [bytesRow,hsz,Nat.mul_one,Nat.add_zero]
     rw [Array.getElem?_append_left (by simpa using hlt),Array.getElem?_map,c1];rfl
    ·rw [hsz,Nat.mul_one] at hq
     have hsize:(bytesRow b (grownCap w b.size 0 e)).size=grownCap w b.size 0 e:=by
       simp only [bytesRow,Array.size_append,Array.size_map,Array.size_replicate]
       show b.size+_=_
       omega
     refine ⟨(bytesRow b (grownCap w b.size 0 e))[q]'(by omega),Array.getElem?_eq_getElem _, ?_⟩
     have:∀v∈bytesRow b (grownCap w b.size 0 e),bD v=true:=fun v hv=>by
       simp only [bytesRow,Array.mem_append,Array.mem_map,Array.mem_replicate] at hv
       rcases hv with ⟨c,_,rfl⟩ | ⟨_,rfl⟩<;>rfl
     exact this _ (Array.getElem_mem _)
  have hsize:(bytesRow b (grownCap w b.size 0 e)).size=grownCap w b.size 0 e:=by
    simp only [bytesRow,Array.size_append,Array.size_map,Array.size_replicate]
    show b.size+_=_
    omega
  refine ⟨_,_,_,hrun,S'.newSlF e (HT.own h2 hs2) (by rw [hsz,hsize];omega) hR, ?_⟩
  have:=VRel.own (C:=C) (w:=w.drew.alloc (.cells (bytesRow b (grownCap w b.size 0 e)) e ((bytesRow b (grownCap w b.size 0 e)).size,(bytesRow b (grownCap w b.size 0 e)).size+1))) (Mut:=Mut) (ρ:=upd ρ objs.length ⟨w.heap.size,0,grownCap w b.size 0 e,noSub⟩) (bW objs (.sl s ys)) (A:=some (at' w.heap.size 0)) (fun _=>by rw [aV])
  rw [aV,hlen] at this
  exact this
theorem P6 (HT:TOk P C T) (HC:bH C) (S:SRel C Mut Lent w0 ρ env objs tm w) {t:TypeId} {ti:TI κ Ty} (ht:T t=some ti) {x:AV κ Ty} {u:Value} {k k':IntKind} {h m:Int} (hx:VRel C w Mut ρ objs x u)
    {K:AV κ Ty→Option R} {r:R} (hr:uI C objs ti.shp x h m K=some r):∃v u',K v=some r∧(Instr.sliceAt t u none (some (.int k h)) (some (.int k' m))).run P w= .ok u' w∧VRel C w Mut ρ objs v u':=by
  unfold uI at hr
  split at hr
  ·rename_i e s hs
   split at hr
   ·rename_i id
    split at hr
    ·rename_i t' xs hsl
     split at hr
     ·rename_i hsame
      have hst:=HC.same _ _ hsame
      subst hst
      obtain ⟨p,hp,hr⟩:=bind_some hr
      split at hp
      ·rename_i e0
       subst e0
       unfold wnd at hp
       split at hp
       ·rename_i hw
        cases hp
        obtain ⟨u1,ie,i1,i2,i3⟩:=HT.slice t ti e s ht hs
        have hsl':=cB hsl
        have ho:=S.ob id
        simp only [ORel,hsl'] at ho
        cases hx with
        | own h1 hA=>
          rw [hsl'] at h1;cases h1
          rename_i A
          refine ⟨_, .slice (if h.toNat=0 then A else A.map (·.add (0*C.sz s))) (h.toNat-0) (h.toNat-0),hr, ?_, .sub hsl' (by omega) (by omega) (Nat.le_refl _) (by have:=ho.1;simp;omega) (fun hc=> ?_)⟩
          ·have hb1:(Instr.sliceBound (.int k' h) (ρ id).cap .slice3Acap).run P w= .ok h.toNat w:=by
             simp only [Instr.sliceBound,asIntOf,Sem.run_bind,Sem.run_pure,Result.andThen_ok]
             rw [if_pos ⟨by omega,by have:=ho.1;omega⟩];rfl
           have hb2:(Instr.sliceBound (.int k h) h.toNat .slice3B).run P w= .ok h.toNat w:=by
             simp only [Instr.sliceBound,asIntOf,Sem.run_bind,Sem.run_pure,Result.andThen_ok]
             rw [if_pos ⟨by omega,by omega⟩];rfl
           simp only [Instr.sliceAt,Instr.sureAddr,Sem.run_bind,Sem.run_pure,Result.andThen_ok,Instr.slice,run_underlying u1,Instr.sliceBounds,if_true,hb1,hb2,rP i1,i2]
          ·have hne:h.toNat≠0:=by omega
           have hc':(ρ id).cap≠0:=by have:=ho.1;omega
           rw [if_neg hne,hA hc']
           simp [nZ]
        | ownd hcl hin h1=>rw [h1] at hsl;cases hsl
       ·cases hp
      ·cases hp
     ·cases hr
    ·cases hr
   ·cases hr
  ·cases hr
theorem SRel.storeRows (HC:bH C) (S:SRel C Mut Lent w0 ρ env objs tm w) {id p:Nat} {t:κ} {xs zs:List (Ty t)} {us:List Value} (hid:objs[id]? =some (.sl t xs)) (hne:zs≠[]) (hp:p+zs.length≤xs.length) (hus:us.length=zs.length*C.sz t)
    (hisc:∀(q:Nat) (v:Value),us[q]? =some v→bD v=true) (hrel:∀i z j cl,zs[i]? =some z→(C.enc t z)[j]? =some cl→∃v,us[i*C.sz t+j]? =some v∧VRel C w Mut ρ objs cl v):
    SRel C Mut Lent w0 ρ env (objs.set id (.sl t (xs.take p++(zs++xs.drop (p+zs.length))))) tm (w.setCells (ρ id).block ((ρ id).off+p*C.sz t) us):=by
  have hlt:=(List.getElem?_eq_some_iff.mp hid).1
  have hzl:=List.length_pos_iff.mpr hne
  have ho:=S.ob id
  simp only [ORel,hid] at ho
  obtain ⟨ho1,ho2,ho3,ho4,ho5⟩:=ho
  have hcap:(ρ id).cap≠0:=by omega
  have hfoot:aG ρ objs id (ρ id).block:=dA hid hcap
  generalize hxs':xs.take p++(zs++xs.drop (p+zs.length))=xs'
  have hlen':xs'.length=xs.length:=by subst hxs';simp;omega
  have hget:∀i,xs'[i]? =if p≤i∧i<p+zs.length then zs[i-p]? else xs[i]? :=fun i=>by
    subst hxs'
    by_cases h1:i<p
    ·rw [List.getElem?_append_left (by simp;omega),List.getElem?_take_of_lt h1,if_neg (by omega)]
    ·rw [List.getElem?_append_right (by simp;omega)]
     have e:i-(xs.take p).length=i-p:=by simp;omega
     rw [e]
     by_cases h2:i<p+zs.length
     ·rw [List.getElem?_append_left (by omega),if_pos (by omega)]
     ·rw [List.getElem?_append_right (by omega),List.getElem?_drop,if_neg (by omega)]
      congr 1;omega
  have hset:(objs.set id (AObj.sl t xs'))[id]? =some (.sl t xs'):=by simp [hlt]
  have hnek:∀k,k≠id→(objs.set id (AObj.sl t xs'))[k]? =objs[k]? :=fun k h=>List.getElem?_set_ne (Ne.symm h)
  have hft:∀k b,aG ρ (objs.set id (AObj.sl t xs')) k b→aG ρ objs k b:=fun k b h=>by
    by_cases e:k=id
    ·subst e;unfold aG at h⊢;rw [hset] at h;rw [hid];exact h
    ·unfold aG at h⊢;rw [hnek k e] at h;exact h
  have hpz:(p+zs.length)*C.sz t≤(ρ id).cap*C.sz t:=Nat.mul_le_mul_right _ (by omega)
  rw [Nat.add_mul] at hpz
  have hroom:∀k,k<us.length→∃u,w.cell? (at' (ρ id).block ((ρ id).off+p*C.sz t+k))=some u:=fun k hk=>by
    obtain ⟨v,a1,_⟩:=ho4 (p*C.sz t+k) (by omega)
    exact ⟨v,by rw [←a1];congr 2;omega⟩
  have hcell:=fun q=>m0 (w:=w) (b:=(ρ id).block) (o:=(ρ id).off+p*C.sz t) (vs:=us) (q:=q) hroom
  have W:WStep w (w.setCells (ρ id).block ((ρ id).off+p*C.sz t) us) (bJ ρ objs) (bJ ρ (objs.set id (AObj.sl t xs'))):=
    ⟨fun b _ hb=>b9 _ _ _ _ _ (fun e=>hb ⟨id,e▸hfoot⟩),by rw [cY];exact Nat.le_refl _,fun b ⟨k,hk⟩=> .inl ⟨k,hft k b hk⟩⟩
  have hcm:∀k,Compat ρ objs ρ (objs.set id (AObj.sl t xs')) k:=fun k=>by
    by_cases e:k=id
    ·subst e;unfold Compat;rw [hid];exact .inl ⟨_,hset,hlen',rfl⟩
    ·exact Compat.of_eq (fun _=>hnek k e) (fun _=>rfl)
  obtain ⟨o1,o2,o3⟩:=n5 (ρ id).block us ((ρ id).off+p*C.sz t) w
  refine S.step W (by simp) hcm (fun k=> ?_) (fun k j b hi hj=>S.inj k j b (hft k b hi) (hft j b hj)) o1 o2 o3
  by_cases e:k=id
  ·subst e
   unfold ORel
   rw [hset]
   refine ⟨by rw [hlen'];exact ho1,fun h=>by rw [cY];exact ho2 h,fun i x j cl hx hj=> ?_,fun q hq=> ?_,ho5.mono fun hn=>⟨hn,lE _ _ _ _ _⟩⟩
   ·have hjs:j<C.sz t:=by have:=(List.getElem?_eq_some_iff.mp hj).1;rwa [HC.len] at this
    rw [hget] at hx
    split at hx
    ·rename_i hin
     obtain ⟨v,a1,a2⟩:=hrel _ _ _ _ hx hj
     refine ⟨v, ?_,a2.step W (by simp) hcm⟩
     have hul:=(List.getElem?_eq_some_iff.mp a1).1
     have hei:i*C.sz t=p*C.sz t+(i-p)*C.sz t:=by rw [←Nat.add_mul];congr 1;omega
     rw [hcell,if_pos (by omega),←a1];congr 1;omega
    ·rename_i hin
     obtain ⟨v,a1,a2⟩:=ho3 i x j cl hx hj
     refine ⟨v, ?_,a2.step W (by simp) hcm⟩
     rw [hcell,if_neg]
     ·exact a1
     ·rintro ⟨b1,b2⟩
      rw [hus] at b2
      by_cases hip:i<p
      ·have:=pM (n:=p) (s:=C.sz t) hip hjs;omega
      ·have:(p+zs.length)*C.sz t≤i*C.sz t:=Nat.mul_le_mul_right _ (by omega)
       rw [Nat.add_mul] at this;omega
   ·obtain ⟨v,a1,a2,a3⟩:=ho4 q hq
    by_cases hin:(ρ k).off+p*C.sz t≤(ρ k).off+q∧(ρ k).off+q<(ρ k).off+p*C.sz t+us.length
    ·have hk:us[(ρ k).off+q-((ρ k).off+p*C.sz t)]? =some (us[(ρ k).off+q-((ρ k).off+p*C.sz t)]'(by omega)):=List.getElem?_eq_getElem _
     exact ⟨_,by rw [hcell,if_pos hin];exact hk,hisc _ _ hk,by rw [World.frozen?_setCells];exact a3⟩
    ·exact ⟨v,by rw [hcell,if_neg hin];exact a1,a2,by rw [World.frozen?_setCells];exact a3⟩
  ·exact ORel.step W (by simp) hcm (S.ob k) (hnek k e) rfl (fun b hb=>b9 _ _ _ _ _ (fun e'=>e (S.inj k id b hb (e'▸hfoot))))
theorem L6 {size n:Nat} {A:Option Addr} {l l' c c':Nat}:Builtin.firstCells size n (.slice A l c)=Builtin.firstCells size n (.slice A l' c'):=by cases A<;>rfl
theorem OC (HC:bH C) (S:SRel C Mut Lent w0 ρ env objs tm w) {t1 t2 e ty:TypeId} {t:κ} {ie:TypeInfo} (hu:P.underlying t1=some (.slice e)) (hi:P.info? e=some ie) (hsz:ie.size=C.sz t)
    {id lo hi' c:Nat} {xs ys:List (Ty t)} {A:Option Addr} (hid:objs[id]? =some (.sl t xs)) (hlo:lo≤hi') (hhi:hi'≤xs.length) (hA:hi'-lo≠0→A=some (at' (ρ id).block ((ρ id).off+lo*C.sz t)))
    {B:Option Addr} {cb blk off:Nat} (hB:ys≠[]→B=some (at' blk off)∧blk<w.heap.size) (hrow:∀i y j cl,ys[i]? =some y→(C.enc t y)[j]? =some cl→∃v,w.cell? (at' blk (off+i*C.sz t+j))=some v∧VRel C w Mut ρ objs cl v):
    ∃w',(Builtin.copy_ #[t1,t2] ty #[.slice A (hi'-lo) c, .slice B ys.length cb]).run P w= .ok (.int .i64 (min ys.length (hi'-lo):Nat)) w'∧SRel C Mut Lent w0 ρ env (objs.set id (.sl t (cpy xs lo hi' ys))) tm w':=by
  have hlt:=(List.getElem?_eq_some_iff.mp hid).1
  have hzl:(ys.take (hi'-lo)).length=min (hi'-lo) ys.length:=by simp
  obtain ⟨vs,v1,v2,v3,v4⟩:=pH (P:=P) (C:=C) (w:=w) (Mut:=Mut) (ρ:=ρ) (objs:=objs) HC (xs:=ys.take (hi'-lo)) (A:=B) (c:=cb) (blk:=blk) (off:=off) (fun hne=>hB (fun e=>hne (by rw [e];simp))) (fun i y j cl h1 h2=>hrow i y j cl (by
    have hl:=(List.getElem?_eq_some_iff.mp h1).1
    rw [List.getElem?_take_of_lt (by rw [hzl] at hl;omega)] at h1;exact h1) h2)
  have hfc:(Builtin.firstCells (C.sz t) (Nat.min ys.length (hi'-lo)) (.slice B ys.length cb)).run P w= .ok vs.toArray w:=by
    have:=v2 w (fun _=>rfl)
    rw [hzl] at this
    rw [L6 (l':=min (hi'-lo) ys.length) (c':=cb),show Nat.min ys.length (hi'-lo)=min (hi'-lo) ys.length from Nat.min_comm _ _]
    exact this
  have hcp:∀(w':World) (cs:List Value),(∀a,A=some a→(storeCells a cs).run P w= .ok () w')→(A=none→w'=w)→vs=cs→
   (Builtin.copy_ #[t1,t2] ty #[.slice A (hi'-lo) c, .slice B ys.length cb]).run P w= .ok (.int .i64 (min ys.length (hi'-lo):Nat)) w':=fun w' cs h h0 e=>by
    subst e
    have:((min ys.length (hi'-lo):Nat):Int)=((Nat.min ys.length (hi'-lo):Nat):Int):=rfl
    rw [this]
    simp only [Builtin.copy_,Sem.run_bind,run_underlying hu,Result.andThen_ok,Builtin.lenOf,Sem.run_pure,rP hi,hsz]
    simp only [List.getElem?_toArray,List.getElem?_cons_zero,List.getElem?_cons_succ]
    simp only [Sem.run_bind,run_underlying hu,Result.andThen_ok,Builtin.lenOf,Sem.run_pure,rP hi,hsz,hfc]
    cases A with
    | none=>rw [h0 rfl];rfl
    | some a=>simp only [Sem.run_bind,h a rfl,Result.andThen_ok,Sem.run_pure];rfl
  by_cases hne:ys.take (hi'-lo)=[]
  ·
    have hvs:vs=[]:=List.length_eq_zero_iff.mp (by rw [v1,hne];simp)
    subst hvs
    have hc0:cpy xs lo hi' ys=xs:=by
      have hm:min (hi'-lo) ys.length=0:=by rw [←hzl,hne];rfl
      unfold cpy
      rw [hne,hm];simp
    refine ⟨w, ?_, ?_⟩
    ·exact hcp w [] (fun a _=>rfl) (fun _=>rfl) rfl
    ·rw [hc0]
     have:objs.set id (.sl t xs)=objs:=by
       apply List.ext_getElem?
       intro k
       by_cases hk:k=id
       ·subst hk;rw [List.getElem?_set_self hlt,hid]
       ·rw [List.getElem?_set_ne (Ne.symm hk)]
     rw [this];exact S
  ·have hpos:=List.length_pos_iff.mpr hne
   rw [hzl] at hpos
   obtain rfl:=hA (by omega)
   have hst:=S.storeRows HC (id:=id) (p:=lo) (zs:=ys.take (hi'-lo)) (us:=vs) hid hne (by rw [hzl];omega) v1 v3 v4
   have ho:=S.ob id
   simp only [ORel,hid] at ho
   have hpz:(lo+min (hi'-lo) ys.length)*C.sz t≤(ρ id).cap*C.sz t:=Nat.mul_le_mul_right _ (by have:=ho.1;omega)
   rw [Nat.add_mul] at hpz
   rw [hzl] at v1
   have hsc:=run_storeCells_cells (P:=P) (ρ id).block ((ρ id).off+lo*C.sz t) vs 0 w (fun j hj=>by
     obtain ⟨v,g1,_⟩:=ho.2.2.2.1 (lo*C.sz t+j) (by omega)
     simp only [Nat.add_zero];rw [show (⟨(ρ id).block,(ρ id).off+lo*C.sz t+j,none⟩:Addr)=at' (ρ id).block ((ρ id).off+(lo*C.sz t+j)) by simp [at',Nat.add_assoc],g1];rfl) (fun j hj=>by
     obtain ⟨v,_,_,g2⟩:=ho.2.2.2.1 (lo*C.sz t+j) (by omega)
     simp only [Nat.add_zero];rw [show (⟨(ρ id).block,(ρ id).off+lo*C.sz t+j,none⟩:Addr)=at' (ρ id).block ((ρ id).off+(lo*C.sz t+j)) by simp [at',Nat.add_assoc]];exact g2) (fun v hv=>by
     obtain ⟨q,hq⟩:=List.getElem?_of_mem hv
     exact EE (v3 q v hq))
   simp only [Nat.add_zero] at hsc
   refine ⟨w.setCells (ρ id).block ((ρ id).off+lo*C.sz t) vs, ?_, ?_⟩
   ·exact hcp _ vs (fun a ha=>by cases ha;exact hsc) (fun h=>by cases h) rfl
   ·have:cpy xs lo hi' ys=xs.take lo++(ys.take (hi'-lo)++xs.drop (lo+(ys.take (hi'-lo)).length)):=by unfold cpy;rw [hzl]
    rw [this];exact hst
theorem UN (HT:TOk P C T) (HC:bH C) (S:SRel C Mut Lent w0 ρ env objs a.tmps w) {t1 t2 e1 ty:TypeId} {i1:TI κ Ty} {s1:κ} (h1:T t1=some i1) (hs1:i1.shp= .slice e1 s1) {x y:AV κ Ty} {u q:Value} (hx:VRel C w Mut ρ objs x u) (hy:VRel C w Mut ρ objs y q)
    {K:AV κ Ty→aH κ Ty→Option R} {r:R} (h:TH C objs s1 x y K=some r):∃n objs' w',K (.lit (.int .i64 n)) objs'=some r∧(Builtin.copy_ #[t1,t2] ty #[u,q]).run P w= .ok (.int .i64 n) w'∧SRel C Mut Lent w0 ρ env objs' a.tmps w':=by
  obtain ⟨hu,ie,i2,i3,_⟩:=HT.slice t1 i1 e1 s1 h1 hs1
  unfold TH at h
  split at h
  ·cases h
  ·rename_i s ys hr
   obtain ⟨B,cb,blk,off,rfl,hcb,hB,hrow⟩:=tN HC S hy hr
   split at h
   ·rename_i id
    split at h
    ·rename_i t xs hsl
     split at h
     ·rename_i hsame
      have:=HC.same _ _ hsame
      subst this
      obtain ⟨e,h⟩:=tT HC h
      subst e
      have hsl':=cB hsl
      have ho:=S.ob id
      simp only [ORel,hsl'] at ho
      cases hx with
      | own g1 hA=>
        rename_i A
        rw [hsl'] at g1;cases g1
        have hA':xs.length-0≠0→A=some (at' (ρ id).block ((ρ id).off+0*C.sz s)):=fun hne=>by
          rw [Nat.zero_mul,Nat.add_zero];exact hA (by have:=ho.1;omega)
        obtain ⟨w',k1,k2⟩:=OC (P:=P) (ty:=ty) (t2:=t2) HC S hu i2 i3 hsl' (lo:=0) (hi':=xs.length) (c:=(ρ id).cap) (A:=A) (by omega) (Nat.le_refl _) hA' (cb:=cb) hB hrow
        rw [Nat.sub_zero] at k1
        exact ⟨_,_,w',h,k1,k2⟩
      | ownd hcl hin g1=>rw [g1] at hsl;cases hsl
     ·cases h
    ·cases h
   ·rename_i id lo hi
    split at h
    ·rename_i t xs hsl
     split at h
     ·rename_i hsame
      have:=HC.same _ _ hsame
      subst this
      obtain ⟨e,h⟩:=tT HC h
      subst e
      have hsl':=cB hsl
      cases hx with
      | sub g1 hlo hhi hc hcap hA=>
        rw [hsl'] at g1;cases g1
        obtain ⟨w',k1,k2⟩:=OC (P:=P) (ty:=ty) (t2:=t2) HC S hu i2 i3 hsl' hlo hhi (fun hne=>hA (by omega)) (cb:=cb) hB hrow
        exact ⟨_,_,w',h,k1,k2⟩
      | subd hcl hin g1=>rw [g1] at hsl;cases hsl
     ·cases h
    ·cases h
   ·cases h
end
end Km
namespace Km
open Go
variable {κ:Type} {Ty:κ→Type} {R:Type}
section
variable {P:Program} {C:Cod κ Ty} {T:TypeId→Option (TI κ Ty)}
variable {Mut Mut2:Nat→Prop} {Lent:Org κ Ty} {w0 w w':World} {ρ ρ2:Nat→Loc} {env:Env κ Ty} {objs objs2:aH κ Ty} {tm:Array Value} {g:Nat→Option Nat}
def fO_ (n:Nat):AObj κ Ty→AObj κ Ty | .rw t xs _ h=> .rw t xs n h | o=>o
theorem wX (o:AObj κ Ty):∃n,o=fO_ n o:=by
  cases o with
  | rw t xs g h=>exact ⟨g,rfl⟩
  | _=>exact ⟨0,rfl⟩
theorem cv_ (old:Option (AObj κ Ty)) (o:AObj κ Ty):∃n,reG old o=fO_ n o:=by
  cases o with
  | rw t xs g h=>
    unfold reG
    dsimp only
    split
    ·exact ⟨_,rfl⟩
    ·exact ⟨g,rfl⟩
  | _=>exact ⟨0,rfl⟩
def Ren (g:Nat→Option Nat) (ρ:Nat→Loc) (objs:aH κ Ty) (ρ2:Nat→Loc) (objs2:aH κ Ty):Prop:=
  ∀i j o,g i=some j→objs[i]? =some o→(∃n,objs2[j]? =some (fO_ n (yV g o)))∧ρ2 j=ρ i
def GK (fl:Bool) (Mut:Nat→Prop) (ρ:Nat→Loc) (objs:aH κ Ty) (Mut2:Nat→Prop) (ρ2:Nat→Loc) (objs2:aH κ Ty):Prop:=
  ∀b k,(b=true→fl=true)→¬Xs Mut ρ objs b k→¬Xs Mut2 ρ2 objs2 b k
theorem sO (HC:bH C) {fl:Bool} (hX:GK fl Mut ρ objs Mut2 ρ2 objs2) {v:AV κ Ty} {u:Value} (h:VRel C w Mut ρ objs v u):
    ((∃x,v= .lit x)∨(∃b t xs,v= .inl b t xs∧(b=true→fl=true)))→VRel C w Mut2 ρ2 objs2 v u:=by
  induction h with
  | lit h=>intro _;exact .lit h
  | @inl b t xs A c blk off vals hb hc hA hcell hrel ih=>
    rintro (⟨x,h⟩ | ⟨b',t',xs',h,hfl⟩)
    ·cases h
    ·cases h
     refine .inl (blk:=blk) (off:=off) hb hc (fun hne=> ?_) hcell (fun i x j cl hx hj=>ih i x j cl hx hj ?_)
     ·obtain ⟨a1,a2,a3⟩:=hA hne
      exact ⟨a1,a2,hX _ _ hfl a3⟩
     ·rcases HC.deep t x cl (lX HC hj) with ⟨q,rfl⟩ | ⟨s,ys,rfl,hs⟩
      ·exact .inl ⟨_,rfl⟩
      ·refine .inr ⟨_,_,_,rfl,fun h=> ?_⟩
       cases hbb:b with
       | true=>exact hfl hbb
       | false=>rw [hb hbb] at h;cases h
  | nil=>rintro (⟨x,h⟩ | ⟨b',t',xs',h,hfl⟩)<;>cases h
  | cadr=>rintro (⟨x,h⟩ | ⟨b',t',xs',h,hfl⟩)<;>cases h
  | ref=>rintro (⟨x,h⟩ | ⟨b',t',xs',h,hfl⟩)<;>cases h
  | refd=>rintro (⟨x,h⟩ | ⟨b',t',xs',h,hfl⟩)<;>cases h
  | eref=>rintro (⟨x,h⟩ | ⟨b',t',xs',h,hfl⟩)<;>cases h
  | erefd=>rintro (⟨x,h⟩ | ⟨b',t',xs',h,hfl⟩)<;>cases h
  | own=>rintro (⟨x,h⟩ | ⟨b',t',xs',h,hfl⟩)<;>cases h
  | ownd=>rintro (⟨x,h⟩ | ⟨b',t',xs',h,hfl⟩)<;>cases h
  | sub=>rintro (⟨x,h⟩ | ⟨b',t',xs',h,hfl⟩)<;>cases h
  | subd=>rintro (⟨x,h⟩ | ⟨b',t',xs',h,hfl⟩)<;>cases h
  | mapv=>rintro (⟨x,h⟩ | ⟨b',t',xs',h,hfl⟩)<;>cases h
  | mapd=>rintro (⟨x,h⟩ | ⟨b',t',xs',h,hfl⟩)<;>cases h
  | rwv=>rintro (⟨x,h⟩ | ⟨b',t',xs',h,hfl⟩)<;>cases h
  | rwvd=>rintro (⟨x,h⟩ | ⟨b',t',xs',h,hfl⟩)<;>cases h
  | rwp=>rintro (⟨x,h⟩ | ⟨b',t',xs',h,hfl⟩)<;>cases h
  | rwpd=>rintro (⟨x,h⟩ | ⟨b',t',xs',h,hfl⟩)<;>cases h
  | xr=>rintro (⟨x,h⟩ | ⟨b',t',xs',h,hfl⟩)<;>cases h
  | xrd=>rintro (⟨x,h⟩ | ⟨b',t',xs',h,hfl⟩)<;>cases h
  | agg=>rintro (⟨x,h⟩ | ⟨b',t',xs',h,hfl⟩)<;>cases h
  | tup=>rintro (⟨x,h⟩ | ⟨b',t',xs',h,hfl⟩)<;>cases h
  | void=>rintro (⟨x,h⟩ | ⟨b',t',xs',h,hfl⟩)<;>cases h
  | gl=>rintro (⟨x,h⟩ | ⟨b',t',xs',h,hfl⟩)<;>cases h
  | undef=>rintro (⟨x,h⟩ | ⟨b',t',xs',h,hfl⟩)<;>cases h
theorem UO {o:AObj κ Ty} {t:κ} {xs:List (Ty t)} (h:o= .sl t xs):yV g o= .sl t xs:=by subst h;rfl
theorem Ren.lt (G:Ren g ρ objs ρ2 objs2) {i j:Nat} (h:g i=some j) (hi:i<objs.length):j<objs2.length:=
  have ⟨⟨_,e⟩,_⟩:=G i j _ h (List.getElem?_eq_getElem hi);(List.getElem?_eq_some_iff.mp e).1
theorem Ren.box_none (G:Ren g ρ objs ρ2 objs2) {i j:Nat} (h:g i=some j) (hi:i<objs.length) (hb:m9 objs i=none):m9 objs2 j=none:=by
  obtain ⟨⟨n0,h1⟩,_⟩:=G i j _ h (List.getElem?_eq_getElem hi)
  have h2:=D6 hb
  rw [List.getElem?_eq_getElem hi] at h2
  unfold m9;rw [h1]
  cases ho:objs[i] with
  | dead=>rfl
  | box cs=>exact absurd (by rw [ho]) (h2 cs)
  | sl t xs=>rfl
  | mp k v es h=>rfl
  | rw t xs n h=>cases h<;>rfl
  | rp t xs n=>rfl
theorem Ren.sl_none (G:Ren g ρ objs ρ2 objs2) {i j:Nat} (h:g i=some j) (hi:i<objs.length) (hb:mX objs i=none):mX objs2 j=none:=by
  obtain ⟨⟨n0,h1⟩,_⟩:=G i j _ h (List.getElem?_eq_getElem hi)
  have h2:=JP hb
  rw [List.getElem?_eq_getElem hi] at h2
  unfold mX;rw [h1]
  cases ho:objs[i] with
  | dead=>rfl
  | box cs=>rfl
  | sl t xs=>exact absurd (by rw [ho]) (h2 t xs)
  | mp k v es h=>rfl
  | rw t xs n h=>cases h<;>rfl
  | rp t xs n=>rfl
theorem Ren.mp_none (G:Ren g ρ objs ρ2 objs2) {i j:Nat} (h:g i=some j) (hi:i<objs.length) (hb:NQ objs i=false):NQ objs2 j=false:=by
  obtain ⟨⟨n0,h1⟩,_⟩:=G i j _ h (List.getElem?_eq_getElem hi)
  have h2:=J2 hb
  rw [List.getElem?_eq_getElem hi] at h2
  unfold NQ;rw [h1]
  cases ho:objs[i] with
  | dead=>rfl
  | box cs=>rfl
  | sl t xs=>rfl
  | mp k v es h=>exact absurd (by rw [ho]) (h2 k v es h)
  | rw t xs n h=>cases h<;>rfl
  | rp t xs n=>rfl
theorem Ren.rw_none (G:Ren g ρ objs ρ2 objs2) {i j:Nat} (h:g i=some j) (hi:i<objs.length) (hb:yK objs i=false):yK objs2 j=false:=by
  obtain ⟨⟨n0,h1⟩,_⟩:=G i j _ h (List.getElem?_eq_getElem hi)
  have h2:=JO hb
  have h3:=ZV hb
  rw [List.getElem?_eq_getElem hi] at h2 h3
  unfold yK;rw [h1]
  cases ho:objs[i] with
  | dead=>rfl
  | box cs=>rfl
  | sl t xs=>rfl
  | mp k v es h=>rfl
  | rw t xs n h=>exact absurd (by rw [ho]) (h2 t xs n h)
  | rp t xs n=>exact absurd (by rw [ho]) (h3 t xs n)
theorem Ren.rws (G:Ren g ρ objs ρ2 objs2) {i j:Nat} (h:g i=some j) {t:κ} {xs:List (Ty t)} (e:kY objs i=some ⟨t,xs⟩):(kY objs2 j=some ⟨t,xs⟩∧ρ2 j=ρ i)∨(yK objs2 j=false∧j<objs2.length):=by
  rcases jI e with ⟨n,ho,e1⟩ | ⟨n,e1⟩
  ·obtain ⟨⟨n0,e2⟩,e3⟩:=G i j _ h e1
   cases ho with
   | none=>exact .inl ⟨cO e2,e3⟩
   | some p=>exact .inr ⟨TD e2,(List.getElem?_eq_some_iff.mp e2).1⟩
  ·obtain ⟨⟨n0,e2⟩,e3⟩:=G i j _ h e1
   exact .inl ⟨gO e2,e3⟩
def fn_ (g:Nat→Option Nat) (h:Option (Nat×Option Nat)):Option (Nat×Option Nat):=match h with
  | some (i,some j)=>some (i,g j)
  | h=>h
theorem renH_ne {g:Nat→Option Nat} {h:Option (Nat×Option Nat)} {i:Nat}:(∀o,fn_ g h≠some (i,o))↔∀o,h≠some (i,o):=by
  unfold fn_
  split
  ·simp
  ·exact Iff.rfl
theorem az_ (g:Nat→Option Nat) (k v:κ) (es:List (Ty k×Ty v)) (h:Option (Nat×Option Nat)):yV g (.mp k v es h)= .mp k v es (fn_ g h):=rfl
theorem DM (HC:bH C) {fl:Bool} (G:Ren g ρ objs ρ2 objs2) (hX:GK fl Mut ρ objs Mut2 ρ2 objs2) {v:AV κ Ty} {u:Value} (hs:fl=false→b2_ v=true) (h:VRel C w Mut ρ objs v u):
    VRel C w Mut2 ρ2 objs2 (yC g v) u:=by
  cases h with
  | lit h=>exact .lit h
  | nil=>exact .nil
  | inl hb hc hA hcell hrel=>
    refine sO HC hX (.inl hb hc hA hcell hrel) (.inr ⟨_,_,_,rfl,fun h=> ?_⟩)
    cases hf:fl with
    | true=>rfl
    | false=>have:=hs hf;simp [b2_,h] at this
  | cadr=>exact .undef
  | ref h1=>
    simp only [yC]
    split
    ·rename_i j hj
     obtain ⟨⟨n0,e1⟩,e2⟩:=G _ _ _ hj h1
     rw [←e2];exact .ref e1
    ·exact .undef
  | refd hc hin h1=>
    simp only [yC]
    split
    ·rename_i j hj;exact .refd hc (G.lt hj hin) (G.box_none hj hin h1)
    ·exact .undef
  | eref h1 hi=>
    simp only [yC]
    split
    ·rename_i j hj
     obtain ⟨⟨n0,e1⟩,e2⟩:=G _ _ _ hj h1
     rw [←e2];exact .eref (by rw [e1,UO rfl];rfl) hi
    ·exact .undef
  | erefd hc hin h1=>
    simp only [yC]
    split
    ·rename_i j hj;exact .erefd hc (G.lt hj hin) (G.sl_none hj hin h1)
    ·exact .undef
  | own h1 hA=>
    simp only [yC]
    split
    ·rename_i j hj
     obtain ⟨⟨n0,e1⟩,e2⟩:=G _ _ _ hj h1
     rw [←e2];exact .own (by rw [e1,UO rfl];rfl) (by rw [e2];exact hA)
    ·exact .undef
  | ownd hc hin h1=>
    simp only [yC]
    split
    ·rename_i j hj;exact .ownd hc (G.lt hj hin) (G.sl_none hj hin h1)
    ·exact .undef
  | sub h1 hlo hhi hc hcap hA=>
    simp only [yC]
    split
    ·rename_i j hj
     obtain ⟨⟨n0,e1⟩,e2⟩:=G _ _ _ hj h1
     exact .sub (by rw [e1,UO rfl];rfl) hlo hhi hc (by rw [e2];exact hcap) (by rw [e2];exact hA)
    ·exact .undef
  | subd hc hin h1=>
    simp only [yC]
    split
    ·rename_i j hj;exact .subd hc (G.lt hj hin) (G.sl_none hj hin h1)
    ·exact .undef
  | mapv h1=>
    simp only [yC]
    split
    ·rename_i j hj
     obtain ⟨⟨n0,e1⟩,e2⟩:=G _ _ _ hj h1
     rw [←e2];exact .mapv (by rw [e1,az_];rfl)
    ·exact .undef
  | mapd hc hin h1=>
    simp only [yC]
    split
    ·rename_i j hj;exact .mapd hc (G.lt hj hin) (G.mp_none hj hin h1)
    ·exact .undef
  | rwv h1 hA=>
    simp only [yC]
    split
    ·rename_i j hj
     rcases G.rws hj h1 with ⟨e1,e2⟩ | ⟨e1,e2⟩
     ·rw [←e2];exact .rwv e1 (by rw [e2];exact hA)
     ·exact .rwvd rfl e2 e1
    ·exact .undef
  | rwvd hc hin h1=>
    simp only [yC]
    split
    ·rename_i j hj;exact .rwvd hc (G.lt hj hin) (G.rw_none hj hin h1)
    ·exact .undef
  | rwp h1 hi=>
    simp only [yC]
    split
    ·rename_i j hj
     rcases G.rws hj h1 with ⟨e1,e2⟩ | ⟨e1,e2⟩
     ·rw [←e2];exact .rwp e1 hi
     ·exact .rwpd rfl e2 e1
    ·exact .undef
  | rwpd hc hin h1=>
    simp only [yC]
    split
    ·rename_i j hj;exact .rwpd hc (G.lt hj hin) (G.rw_none hj hin h1)
    ·exact .undef
  | xr=>exact .undef
  | xrd=>exact .undef
  | agg=>exact .undef
  | tup=>exact .undef
  | void=>exact .void
  | gl h e=>exact .gl h e
  | undef=>exact .undef
theorem YN (HC:bH C) {fl:Bool} (G:Ren g ρ objs ρ2 objs2) (hX:GK fl Mut ρ objs Mut2 ρ2 objs2) {v:AV κ Ty} {u:Value} (hs:fl=false→vZ v=true) (h:VRel C w Mut ρ objs v u):
    VRel C w Mut2 ρ2 objs2 (cx_ g v) u:=by
  by_cases hv:∃cs,v= .agg cs
  ·obtain ⟨cs,rfl⟩:=hv
   cases h with
   | agg hl hcell hrel=>
     refine .agg (by simpa using hl) hcell (fun j cl u hj hu=> ?_)
     simp only [List.getElem?_map,Option.map_eq_some_iff] at hj
     obtain ⟨c,hc,rfl⟩:=hj
     refine DM HC G hX (fun hf=> ?_) (hrel j c u hc hu)
     have:=hs hf
     simp only [vZ,List.all_eq_true] at this
     exact this c (List.mem_of_getElem? hc)
  ·have e:cx_ g v=yC g v:=by cases v<;>first | rfl | exact absurd ⟨_,rfl⟩ hv
   rw [e]
   refine DM HC G hX (fun hf=> ?_) h
   have:=hs hf
   cases v<;>first | exact this | exact absurd ⟨_,rfl⟩ hv | (simp [vZ] at this)
theorem G9 (HC:bH C) {fl:Bool} (G:Ren g ρ objs ρ2 objs2) (hX:GK fl Mut ρ objs Mut2 ρ2 objs2) {v:AV κ Ty} {u:Value} (hs:fl=false→∀vs,v= .tup vs→vs.all vZ=true) (hs2:fl=false→(∀vs,v≠ .tup vs)→vZ v=true) (h:VRel C w Mut ρ objs v u):
    VRel C w Mut2 ρ2 objs2 (HW g v) u:=by
  by_cases hv:∃cs,v= .tup cs
  ·obtain ⟨cs,rfl⟩:=hv
   cases h with
   | tup hl hrel=>
     refine .tup (by simpa using hl) (fun j cl u hj hu=> ?_)
     simp only [List.getElem?_map,Option.map_eq_some_iff] at hj
     obtain ⟨c,hc,rfl⟩:=hj
     refine YN HC G hX (fun hf=> ?_) (hrel j c u hc hu)
     have:=hs hf cs rfl
     simp only [List.all_eq_true] at this
     exact this c (List.mem_of_getElem? hc)
  ·have e:HW g v=cx_ g v:=by cases v<;>first | rfl | exact absurd ⟨_,rfl⟩ hv
   rw [e]
   exact YN HC G hX (fun hf=>hs2 hf fun vs e=>hv ⟨vs,e⟩) h
theorem EntR.ren (HC:bH C) {fl:Bool} (hX:GK fl Mut ρ objs Mut2 ρ2 objs2) {L:Nat×Nat×Nat} {cs:List (AV κ Ty)} {u:Value} (h:EntR C w Mut ρ objs L cs u)
    (hf:∀b s xs,cs=[.inl b s xs]→C.bor s=true→fl=true):EntR C w Mut2 ρ2 objs2 L cs u:=by
  unfold EntR at h⊢
  split at h
  ·exact h
  ·rename_i b0 s0 xs0
   obtain ⟨A,h1,h2,g1,g2,g3,g4⟩:=h
   refine ⟨A,h1,h2,g1,g2,fun i x j cl hx hj=> ?_,g4⟩
   obtain ⟨u,a1,a2⟩:=g3 i x j cl hx hj
   refine ⟨u,a1,sO HC hX a2 ?_⟩
   rcases HC.deep _ x cl (lX HC hj) with ⟨y,rfl⟩ | ⟨s,ys,rfl,hb⟩
   ·exact .inl ⟨_,rfl⟩
   ·exact .inr ⟨_,_,_,rfl,fun h=>hf _ _ _ rfl h⟩
  ·exact h.elim
theorem RwRel.ren (HC:bH C) {fl:Bool} (hX:GK fl Mut ρ objs Mut2 ρ2 objs2) {L:Loc} {t:κ} {xs:List (Ty t)} {K:Nat→Nat→RK} (h:RwRel C w Mut ρ objs L t xs K)
    (hK:∀i j n,K i j≠ .hole n) (hf:∀i j,K i j= .bor→fl=true):RwRel C w Mut2 ρ2 objs2 L t xs K where
  xcl:=h.xcl
  len:=h.len
  blk:=h.blk
  cell i x j cl hx hj:=by
    obtain ⟨v,h1,h2⟩:=h.cell i x j cl hx hj
    refine ⟨v,h1, ?_⟩
    cases hk:K i j with
    | own=>
      rw [hk] at h2
      refine EntR.ren HC hX h2 fun b s ys e hb=> ?_
      cases e
      have:=HC.xin t x b s ys h.xcl (lX HC hj)
      rw [this] at hb;cases hb
    | hole n=>exact absurd hk (hK i j n)
    | bor=>
      rw [hk] at h2
      refine ⟨h2.1,sO HC hX h2.2 ?_⟩
      rcases HC.deep t x cl (lX HC hj) with ⟨y,rfl⟩ | ⟨s,ys,rfl,hb⟩
      ·exact .inl ⟨_,rfl⟩
      ·exact .inr ⟨_,_,_,rfl,fun _=>hf i j hk⟩
  room:=h.room
  zero:=h.zero
  disj:=h.disj
  own:=h.own
  lt:=h.lt
theorem eT_ {g:Nat→Option Nat}:∀{cs:List (AV κ Ty)},bsh (cs.map (yC g))=true→bsh cs=true
  | [],h=>h
  | [_],h=>h
  | [c,d],h=>by
    cases c<;>first
      | rfl
      | (simp only [List.map_cons,List.map_nil,yC] at h;exact h)
      | (simp only [List.map_cons,List.map_nil,yC] at h;split at h<;>cases h)
      | (simp only [List.map_cons,List.map_nil,yC] at h;cases h)
  | _::_::_::_,h=>h
theorem e0_ {g:Nat→Option Nat}:∀{cs:List (AV κ Ty)},frs (cs.map (yC g))=true→frs cs=true
  | [],h=>h
  | [_],h=>h
  | [c,d],h=>by
    cases c<;>first
      | (simp only [List.map_cons,List.map_nil,yC] at h;exact h)
      | (simp only [List.map_cons,List.map_nil,yC] at h;split at h<;>cases h)
      | (simp only [List.map_cons,List.map_nil,yC] at h;cases h)
  | _::_::_::_,h=>h
theorem ORel.ren (HC:bH C) {fl:Bool} (G:Ren g ρ objs ρ2 objs2) (hX:GK fl Mut ρ objs Mut2 ρ2 objs2) {i j:Nat} {o:AObj κ Ty} (hg:g i=some j) (ho:objs[i]? =some o) (hs:fl=false→IE C o=true) (h:ORel C w Mut ρ objs i):ORel C w Mut2 ρ2 objs2 j:=by
  obtain ⟨⟨n0,e1⟩,e2⟩:=G i j o hg ho
  unfold ORel at h⊢
  rw [ho] at h
  rw [e1,e2]
  cases o with
  | dead=>trivial
  | box cs=>
    obtain ⟨h1,h2,h3,h5⟩:=h
    refine ⟨h1,fun k cl hk=> ?_,fun hb=>h3 (eT_ hb),fun hb=>h5 (e0_ hb)⟩
    simp only [List.getElem?_map,Option.map_eq_some_iff] at hk
    obtain ⟨c,hc,rfl⟩:=hk
    obtain ⟨v,a1,a2,a3,a4⟩:=h2 k c hc
    refine ⟨v,a1,a2,DM HC G hX (fun hf=> ?_) a3,a4⟩
    have:=hs hf
    simp only [IE,List.all_eq_true] at this
    exact this c (List.mem_of_getElem? hc)
  | sl t xs=>
    obtain ⟨h1,h2,h3,h4⟩:=h
    refine ⟨h1,h2,fun k x q cl hx hq=> ?_,h4⟩
    obtain ⟨v,a1,a2⟩:=h3 k x q cl hx hq
    refine ⟨v,a1,sO HC hX a2 ?_⟩
    rcases HC.deep t x cl (lX HC hq) with ⟨y,rfl⟩ | ⟨s,ys,rfl,hb⟩
    ·exact .inl ⟨_,rfl⟩
    ·refine .inr ⟨_,_,_,rfl,fun h=> ?_⟩
     cases hf:fl with
     | true=>rfl
     | false=>
       have:=hs hf
       simp [IE,h] at this
  | mp k v es hh=>
    have hfl:fl=true:=by
      cases hf:fl with
      | true=>rfl
      | false=>have:=hs hf;simp [IE] at this
    obtain ⟨mes,h⟩:=h
    refine ⟨mes,h.size,h.at_,fun q e he=> ?_,fun q e me he hm hn=> ?_,fun q o me hq hm=> ?_,fun q o hq=> ?_,fun q hq hn=>h.own q hq (renH_ne.mp hn),fun p q hp hq hnp hnq=>h.disj p q hp hq (renH_ne.mp hnp) (renH_ne.mp hnq)⟩
    ·obtain ⟨h1,me,h2,h3,h4⟩:=h.key q e he
     refine ⟨h1,me,h2,h3, ?_⟩
     generalize hkv:me.key=kv at h4
     cases h4 with
     | agg hl hcell hrel=>
       refine .agg hl hcell fun j cl u hj hu=>sO HC hX (hrel j cl u hj hu) (.inl (h1 cl (List.mem_of_getElem? hj)))
    ·have hv:=h.val q e me he hm (renH_ne.mp hn)
     generalize C.enc v e.2=ce at hv⊢
     generalize me.val=mv at hv⊢
     unfold EntR at hv⊢
     split at hv
     ·exact hv
     ·obtain ⟨A,h1,h2,g1,g2,g3,g4⟩:=hv
      refine ⟨A,h1,h2,g1,g2,fun i x j cl hx hj=> ?_,g4⟩
      obtain ⟨u,a1,a2⟩:=g3 i x j cl hx hj
      refine ⟨u,a1,sO HC hX a2 ?_⟩
      rcases HC.deep _ x cl (lX HC hj) with ⟨y,rfl⟩ | ⟨s,ys,rfl,hb⟩
      ·exact .inl ⟨_,rfl⟩
      ·exact .inr ⟨_,_,_,rfl,fun _=>hfl⟩
     ·exact hv.elim
    ·unfold fn_ at hq
     split at hq
     ·rename_i q' j'
      cases hq
      obtain ⟨h1,h2⟩:=h.hole q (some j') me rfl hm
      refine ⟨h1,fun j2 hj2=> ?_⟩
      have:=DM HC G hX (fun hf=>by rw [hfl] at hf;cases hf) (h2 j' rfl)
      simp only [yC,hj2] at this
      exact this
     ·rename_i hnot
      obtain ⟨h1,h2⟩:=h.hole q o me hq hm
      refine ⟨h1,fun j2 hj2=> ?_⟩
      subst hj2
      exact absurd hq (hnot q j2)
    ·unfold fn_ at hq
     split at hq
     ·cases hq;exact h.hlt _ _ rfl
     ·exact h.hlt _ _ hq
  | rw t xs n hh=>
    cases hh with
    | none=>exact RwRel.ren HC hX h (fun i j n h=>by cases h) (fun i j h=>by cases h)
    | some p=>trivial
  | rp t xs n=>
    refine RwRel.ren HC hX h (fun i j n h=>by unfold dr_ at h;split at h<;>cases h) (fun i j _=> ?_)
    cases hf:fl with
    | true=>rfl
    | false=>have:=hs hf;simp [IE] at this
end
end Km
namespace Km
open Go
variable {κ:Type} {Ty:κ→Type} {R:Type}
theorem lG (i:Nat):∀(l:List Nat),rR i l=true↔i∈l
  | []=>by simp [rR]
  | j::l=>by
    simp only [rR]
    split
    ·rename_i h;have:=Nat.eq_of_beq_eq_true h;simp [this]
    ·rename_i h
     have hne:i≠j:=fun e=>by rw [e] at h;simp at h
     rw [lG i l];simp [hne]
theorem BZ:∀(l acc:List Nat),acc.Nodup→(E3 acc l).Nodup∧(∀i,i∈E3 acc l↔i∈acc∨i∈l)
  | [],acc,h=>⟨h,fun i=>by simp [E3]⟩
  | i::l,acc,h=>by
    simp only [E3]
    split
    ·rename_i hi
     have hi:=(lG i acc).mp hi
     obtain ⟨h1,h2⟩:=BZ l acc h
     refine ⟨h1,fun j=> ?_⟩
     rw [h2 j];simp only [List.mem_cons]
     constructor
     ·rintro (h | h)
      ·exact .inl h
      ·exact .inr (.inr h)
     ·rintro (h | rfl | h)
      ·exact .inl h
      ·exact .inl hi
      ·exact .inr h
    ·rename_i hi
     have hi:i∉acc:=fun h=>by rw [(lG i acc).mpr h] at hi;cases hi
     obtain ⟨h1,h2⟩:=BZ l (acc++[i]) (by
       rw [List.nodup_append]
       exact ⟨h,by simp,fun a ha b hb=>by simp at hb;subst hb;rintro rfl;exact hi ha⟩)
     refine ⟨h1,fun j=> ?_⟩
     rw [h2 j];simp only [List.mem_append,List.mem_cons,List.mem_singleton,List.not_mem_nil,or_false,or_assoc]
theorem n8 {l acc:List Nat} (h:acc.Nodup):(E3 acc l).Nodup:=(BZ l acc h).1
theorem HP {l acc:List Nat} (h:acc.Nodup) (i:Nat):i∈E3 acc l↔i∈acc∨i∈l:=(BZ l acc h).2 i
theorem HY {objs:aH κ Ty} {acc:List Nat} (h:acc.Nodup):(yQ objs acc).Nodup:=n8 (n8 h)
theorem uS:∀(l acc:List Nat),∃m,E3 acc l=acc++m
  | [],acc=>⟨[],by simp [E3]⟩
  | i::l,acc=>by
    simp only [E3]
    split
    ·exact uS l acc
    ·obtain ⟨m,h⟩:=uS l (acc++[i])
     exact ⟨i::m,by rw [h];simp⟩
theorem rD:∀{l:List Nat} {i n j:Nat},zH l i n=some j→n≤j∧l[j-n]? =some i
  | [],_,_,_,h=>by simp [zH] at h
  | k::l,i,n,j,h=>by
    simp only [zH] at h
    split at h
    ·rename_i hk
     have:=Nat.eq_of_beq_eq_true hk
     cases h;subst this;simp
    ·obtain ⟨h1,h2⟩:=rD h
     refine ⟨by omega, ?_⟩
     obtain ⟨d,rfl⟩:∃d,j=n+1+d:=⟨j-(n+1),by omega⟩
     rw [show n+1+d-(n+1)=d by omega] at h2
     rw [show n+1+d-n=d+1 by omega];simpa using h2
theorem CI:∀{l:List Nat} {i n:Nat},zH l i n=none→i∉l
  | [],_,_,_=>by simp
  | k::l,i,n,h=>by
    simp only [zH] at h
    split at h
    ·cases h
    ·rename_i hk
     have hne:i≠k:=fun e=>by subst e;simp at hk
     have:=CI h
     simp [hne,this]
theorem PF {l:List Nat} (hn:l.Nodup) {j i:Nat} (h:l[j]? =some i):zH l i 0=some j:=by
  cases hp:zH l i 0 with
  | none=>exact absurd (List.mem_of_getElem? h) (CI hp)
  | some k=>
    obtain ⟨_,h2⟩:=rD hp
    simp only [Nat.sub_zero] at h2
    have hk:=(List.getElem?_eq_some_iff.mp h2).1
    have hj:=(List.getElem?_eq_some_iff.mp h).1
    have:=(List.getElem?_inj hk hn).mp (h2.trans h.symm)
    rw [this]
section
variable {P:Program} {C:Cod κ Ty} {T:TypeId→Option (TI κ Ty)}
variable {Mut:Nat→Prop} {Lent:Org κ Ty} {w0 w w':World} {ρ ρ' ρ2:Nat→Loc} {env:Env κ Ty} {objs objs' objs2:aH κ Ty} {tm:Array Value}
class GlobOk (C:Cod κ Ty) (Mut:Nat→Prop) (Lent:Org κ Ty) (w0:World):Prop where
  mt:∀b,C.gb b→Mut b∧¬bJ Lent.ρ Lent.objs b
  gp:C.gp w0
theorem GlobOk.now [G:GlobOk C Mut Lent w0] (HC:bH C) (S:SRel C Mut Lent w0 ρ env objs tm w):C.gp w:=
  HC.gst w0 w G.gp S.size fun b hb=>S.frame b (S.mlt b (G.mt b hb).1) (G.mt b hb).2
def SummOk (P:Program) (C:Cod κ Ty) (f:FuncId) (S:bU κ Ty):Prop:=
  (∃ fn, P.funcs[f]? = some fn ∧ (fn.name == "runtime.NumGoroutine") = false ∧ fn.body.isSome = true) ∧
  ∀(args:List (AV κ Ty)) (objs:aH κ Ty) (r:S.R),S.run args objs=some r→∀(Mut:Nat→Prop) (ρ:Nat→Loc) (vals:Array Value) (w:World),
   vals.size=args.length→(∀(j:Nat) (x:AV κ Ty) (u:Value),args[j]? =some x→vals[j]? =some u→VRel C w Mut ρ objs x u)→
   SRel C Mut ⟨ρ,objs⟩ w ρ [] objs #[] w→(∀b,C.gb b→Mut b)→C.gp w→
   Calls P f vals w fun e w'=>∃v ρ',e= .returned v∧VRel C w' Mut ρ' (S.ret r).2 (S.ret r).1 v∧SRel C Mut ⟨ρ,objs⟩ w ρ' [] (S.ret r).2 #[] w'∧
     (∀o∈(S.ret r).2,IE C o=true)∧(∀vs,(S.ret r).1= .tup vs→vs.all vZ=true)∧((∀vs,(S.ret r).1≠ .tup vs)→vZ (S.ret r).1=true)
theorem SRel.start (hob:∀id,ORel C w Mut ρ objs id) (hinj:∀i j b,aG ρ objs i b→aG ρ objs j b→i=j) (hlive:∀b,bJ ρ objs b→¬Mut b) (hmlt:∀b,Mut b→b<w.heap.size):
    SRel C Mut ⟨ρ,objs⟩ w ρ [] objs #[] w where
  env i:= .inl rfl
  ob:=hob
  inj:=hinj
  live b hb:=⟨hlive b hb, .inl hb⟩
  comp id:= .refl id
  len:=Nat.le_refl _
  mlt:=hmlt
  frame _ _ _:=rfl
  size:=Nat.le_refl _
  os:=rfl
  tape:=rfl
  output:=rfl
def lS (objs:aH κ Ty) (l:List Nat):aH κ Ty:=l.map fun i=>match objs[i]? with | some o=>yV (zH l · 0) o | none=> .dead
def pI (ρ:Nat→Loc) (l:List Nat):Nat→Loc:=fun j=>ρ (l.getD j 0)
def n7 (Mut:Nat→Prop) (ρ:Nat→Loc) (objs:aH κ Ty) (l:List Nat):Nat→Prop:=fun b=>Mut b∨∃i,i∉l∧aG ρ objs i b
theorem CD (ρ:Nat→Loc) (objs:aH κ Ty) (l:List Nat):Ren (zH l · 0) ρ objs (pI ρ l) (lS objs l):=by
  intro i j o h ho
  obtain ⟨_,h2⟩:=rD h
  simp only [Nat.sub_zero] at h2
  refine ⟨?_, ?_⟩
  ·obtain ⟨n,hn⟩:=wX (yV (zH l · 0) o)
   exact ⟨n,by simp only [lS,List.getElem?_map,h2,Option.map_some,ho];rw [←hn]⟩
  ·simp only [pI,List.getD,h2,Option.getD_some]
theorem EM {g:Nat→Option Nat} {o:AObj κ Ty} {i j b:Nat} (h1:objs[i]? =some o) (h2:∃n,objs2[j]? =some (fO_ n (yV g o))) (h3:ρ2 j=ρ i) (h:aG ρ2 objs2 j b):aG ρ objs i b:=by
  obtain ⟨n,h2⟩:=h2
  revert h
  unfold aG
  rw [h1,h2,h3]
  cases o with
  | mp k v es h=>simp only [az_,fO_,renH_ne];exact id
  | rw t xs g h=>cases h<;>first | exact id | exact False.elim
  | _=>exact id
theorem hZ {l:List Nat} (hl:∀i∈l,i<objs.length) {j b:Nat} (h:aG (pI ρ l) (lS objs l) j b):∃i,l[j]? =some i∧aG ρ objs i b:=by
  have hj:j<l.length:=by
    rcases Nat.lt_or_ge j l.length with h' | h'
    ·exact h'
    ·unfold aG at h
     have:(lS objs l)[j]? =none:=List.getElem?_eq_none (by simp [lS];exact h')
     rw [this] at h;exact h.elim
  have hi:=hl _ (List.getElem_mem hj)
  refine ⟨l[j],List.getElem?_eq_getElem hj, ?_⟩
  refine EM (g:=(zH l · 0)) (List.getElem?_eq_getElem hi) ?_ ?_ h
  ·obtain ⟨n,hn⟩:=wX (yV (zH l · 0) objs[l[j]])
   exact ⟨n,by simp only [lS,List.getElem?_map,List.getElem?_eq_getElem hj,Option.map_some,List.getElem?_eq_getElem hi];rw [←hn]⟩
  ·simp [pI,List.getD,List.getElem?_eq_getElem hj]
theorem uF {l:List Nat} (hl:∀i∈l,i<objs.length):GK true Mut ρ objs (n7 Mut ρ objs l) (pI ρ l) (lS objs l):=by
  intro b k _ h h'
  rcases h' with ⟨j,hj⟩ | ⟨hb,hm⟩
  ·obtain ⟨i,_,hi⟩:=hZ hl hj
   exact h (.inl ⟨i,hi⟩)
  ·rcases hm with hm | ⟨i,_,hi⟩
   ·exact h (.inr ⟨hb,hm⟩)
   ·exact h (.inl ⟨i,hi⟩)
theorem ZC (HC:bH C) (S:SRel C Mut Lent w0 ρ env objs tm w) {l:List Nat} (hn:l.Nodup) (hl:∀i∈l,i<objs.length):
    SRel C (n7 Mut ρ objs l) ⟨pI ρ l,lS objs l⟩ w (pI ρ l) [] (lS objs l) #[] w:=by
  refine SRel.start (fun j=> ?_) (fun i j b hi hj=> ?_) (fun b ⟨j,hj⟩ hm=> ?_) (fun b hb=> ?_)
  ·by_cases hj:j<l.length
   ·have hi:=hl _ (List.getElem_mem hj)
    exact ORel.ren HC (CD ρ objs l) (uF hl) (PF hn (List.getElem?_eq_getElem hj)) (List.getElem?_eq_getElem hi) (fun h=>by cases h) (S.ob _)
   ·unfold ORel
    have:(lS objs l)[j]? =none:=List.getElem?_eq_none (by simp [lS];omega)
    rw [this];trivial
  ·obtain ⟨p,h1,h2⟩:=hZ hl hi
   obtain ⟨q,g1,g2⟩:=hZ hl hj
   have:=S.inj p q b h2 g2
   subst this
   have hk:=(List.getElem?_eq_some_iff.mp h1).1
   exact (List.getElem?_inj hk hn).mp (h1.trans g1.symm)
  ·obtain ⟨i,h1,h2⟩:=hZ hl hj
   rcases hm with hm | ⟨q,hq,hf⟩
   ·exact (S.live b ⟨i,h2⟩).1 hm
   ·exact hq (S.inj q i b hf h2▸List.mem_of_getElem? h1)
  ·rcases hb with hb | ⟨i,_,hi⟩
   ·have:=S.mlt b hb;have:=S.size;omega
   ·exact S.flt hi
end
end Km
namespace Km
open Go
variable {κ:Type} {Ty:κ→Type} {R:Type}
theorem dH (g:Nat→Option Nat):∀(l:List Nat) (os objs:aH κ Ty),(yO g objs l os).length=objs.length
  | [],_,_=>by simp [yO]
  | i::l,[],_=>by simp [yO]
  | i::l,o::os,objs=>by simp [yO,dH g l os]
theorem C9 (g:Nat→Option Nat):∀(l:List Nat) (os objs:aH κ Ty) (i:Nat),i∉l→(yO g objs l os)[i]? =objs[i]?
  | [],_,_,_,_=>by simp [yO]
  | k::l,[],_,_,_=>by simp [yO]
  | k::l,o::os,objs,i,h=>by
    simp only [List.mem_cons,not_or] at h
    simp only [yO]
    rw [C9 g l os _ i h.2,List.getElem?_set_ne (Ne.symm h.1)]
theorem QF (g:Nat→Option Nat):∀(l:List Nat) (os objs:aH κ Ty) (j i:Nat) (o:AObj κ Ty),l.Nodup→(∀i∈l,i<objs.length)→l[j]? =some i→os[j]? =some o→(yO g objs l os)[i]? =some (reG objs[i]? (yV g o))
  | [],_,_,_,_,_,_,_,h,_=>by simp at h
  | k::l,[],_,_,_,_,_,_,_,h=>by simp at h
  | k::l,o::os,objs,0,i,o',hn,hl,h,ho=>by
    simp at h ho;subst h;subst ho
    simp only [yO]
    have hk:k∉l:=(List.nodup_cons.mp hn).1
    rw [C9 g l os _ k hk]
    have:=hl k (by simp)
    rw [List.getElem?_set_self this]
  | k::l,o::os,objs,j+1,i,o',hn,hl,h,ho=>by
    simp only [yO]
    have hki:k≠i:=fun e=>(List.nodup_cons.mp hn).1 (e▸List.mem_of_getElem? (by simpa using h))
    have:=QF g l os (objs.set k (reG objs[k]? (yV g o))) j i o' (List.nodup_cons.mp hn).2 (fun i hi=>by simp;exact hl i (by simp [hi])) (by simpa using h) (by simpa using ho)
    rw [List.getElem?_set_ne hki] at this
    exact this
theorem dn_ (o:AObj κ Ty):reG none o=o:=by cases o<;>rfl
section
variable {P:Program} {C:Cod κ Ty} {T:TypeId→Option (TI κ Ty)}
variable {Mut:Nat→Prop} {Lent:Org κ Ty} {w0 w w':World} {ρ ρ' ρ2:Nat→Loc} {env:Env κ Ty} {objs objs' objs2:aH κ Ty} {tm:Array Value}
def BK (ρ ρ':Nat→Loc) (n:Nat) (l:List Nat):Nat→Loc:=fun i=>match zH l i 0 with
  | some j=>ρ' j
  | none=>if i<n then ρ i else ρ' (l.length+(i-n))
def lF (objs:aH κ Ty) (l:List Nat) (o':aH κ Ty):aH κ Ty:=yO (xJ objs.length l) objs l o'++(o'.drop l.length).map (yV (xJ objs.length l))
theorem RZ {l:List Nat} {o':aH κ Ty} (hn:l.Nodup) (hl:∀i∈l,i<objs.length) (hlen:l.length≤o'.length) (i:Nat):
    (i<objs.length∧i∉l∧(lF objs l o')[i]? =objs[i]? ∧BK ρ ρ' objs.length l i=ρ i)∨
    (∃j o,o'[j]? =some o∧xJ objs.length l j=some i∧(lF objs l o')[i]? =some (reG objs[i]? (yV (xJ objs.length l) o))∧BK ρ ρ' objs.length l i=ρ' j)∨
    (lF objs l o')[i]? =none:=by
  by_cases hi:i<objs.length
  ·cases hp:zH l i 0 with
   | none=>
     refine .inl ⟨hi,CI hp, ?_,by simp [BK,hp,hi]⟩
     unfold lF
     rw [List.getElem?_append_left (by rw [dH];exact hi),C9 _ _ _ _ _ (CI hp)]
   | some j=>
     obtain ⟨_,h2⟩:=rD hp
     simp only [Nat.sub_zero] at h2
     have hj:=(List.getElem?_eq_some_iff.mp h2).1
     have ho:o'[j]? =some (o'[j]'(by omega)):=List.getElem?_eq_getElem _
     refine .inr (.inl ⟨j,_,ho,by simp [xJ,h2], ?_,by simp [BK,hp]⟩)
     unfold lF
     rw [List.getElem?_append_left (by rw [dH];exact hi)]
     exact QF _ l o' objs j i _ hn hl h2 ho
  ·have hp:zH l i 0=none:=by
     cases hp:zH l i 0 with
     | none=>rfl
     | some j=>
       obtain ⟨_,h2⟩:=rD hp
       simp only [Nat.sub_zero] at h2
       exact absurd (hl i (List.mem_of_getElem? h2)) hi
   by_cases hk:l.length+(i-objs.length)<o'.length
   ·have ho:o'[l.length+(i-objs.length)]? =some (o'[l.length+(i-objs.length)]'hk):=List.getElem?_eq_getElem _
    refine .inr (.inl ⟨_,_,ho, ?_, ?_,by simp [BK,hp,hi]⟩)
    ·have:l[l.length+(i-objs.length)]? =none:=List.getElem?_eq_none (by omega)
     simp only [xJ,this];congr 1;omega
    ·unfold lF
     rw [List.getElem?_append_right (by rw [dH];omega),dH,List.getElem?_map,List.getElem?_drop,ho,List.getElem?_eq_none (l:=objs) (by omega),dn_];rfl
   ·refine .inr (.inr ?_)
    refine List.getElem?_eq_none ?_
    simp [lF,dH];omega
theorem cT_ {l:List Nat} {o':aH κ Ty} (hn:l.Nodup) (hl:∀i∈l,i<objs.length) (hlen:l.length≤o'.length):Ren (xJ objs.length l) ρ' o' (BK ρ ρ' objs.length l) (lF objs l o'):=by
  intro j i o hg ho
  have hjo:=(List.getElem?_eq_some_iff.mp ho).1
  unfold xJ at hg
  split at hg
  ·rename_i i' hj
   cases hg
   refine ⟨?_,by simp [BK,PF hn hj]⟩
   unfold lF
   rw [List.getElem?_append_left (by rw [dH];exact hl _ (List.mem_of_getElem? hj))]
   obtain ⟨n,e⟩:=cv_ objs[i]? (yV (xJ objs.length l) o)
   exact ⟨n,e▸QF _ l o' objs j i _ hn hl hj ho⟩
  ·rename_i hj
   have hj':l.length≤j:=by
     rcases Nat.lt_or_ge j l.length with h | h
     ·rw [List.getElem?_eq_getElem h] at hj;cases hj
     ·exact h
   cases hg
   have hp:zH l (objs.length+(j-l.length)) 0=none:=by
     cases hp:zH l (objs.length+(j-l.length)) 0 with
     | none=>rfl
     | some q=>
       obtain ⟨_,h2⟩:=rD hp
       simp only [Nat.sub_zero] at h2
       have:=hl _ (List.mem_of_getElem? h2);omega
   refine ⟨?_, ?_⟩
   ·unfold lF
    rw [List.getElem?_append_right (by rw [dH];omega),dH,List.getElem?_map,List.getElem?_drop]
    rw [show l.length+(objs.length+(j-l.length)-objs.length)=j by omega,ho]
    obtain ⟨n,e⟩:=wX (yV (xJ objs.length l) o)
    exact ⟨n,by rw [←e];rfl⟩
   ·simp only [BK,hp]
    rw [if_neg (by omega)]
    congr 1;omega
theorem bL_ (HC:bH C) (S:SRel C Mut Lent w0 ρ env objs tm w) {l:List Nat} (hn:l.Nodup) (hl:∀i∈l,i<objs.length) {o':aH κ Ty}
    (S':SRel C (n7 Mut ρ objs l) ⟨pI ρ l,lS objs l⟩ w ρ' [] o' #[] w') (hs:∀o∈o',IE C o=true):
    SRel C Mut Lent w0 (BK ρ ρ' objs.length l) env (lF objs l o') tm w'∧
      ∀(v:AV κ Ty) (u:Value),(∀vs,v= .tup vs→vs.all vZ=true)→((∀vs,v≠ .tup vs)→vZ v=true)→VRel C w' (n7 Mut ρ objs l) ρ' o' v u→VRel C w' Mut (BK ρ ρ' objs.length l) (lF objs l o') (HW (xJ objs.length l) v) u:=by
  have hlen:l.length≤o'.length:=by have:=S'.len;simpa [lS] using this
  have G:=cT_ (ρ:=ρ) (ρ':=ρ') hn hl hlen
  have cs:=RZ (ρ:=ρ) (ρ':=ρ') hn hl hlen
  have foot:∀i b,aG (BK ρ ρ' objs.length l) (lF objs l o') i b→(i<objs.length∧i∉l∧aG ρ objs i b)∨(∃j,xJ objs.length l j=some i∧aG ρ' o' j b):=by
    intro i b h
    rcases cs i with ⟨h1,h2,h3,h4⟩ | ⟨j,o,h1,h2,h3,h4⟩ | h1
    ·refine .inl ⟨h1,h2, ?_⟩
     unfold aG at h⊢;rw [h3,h4] at h;exact h
    ·exact .inr ⟨j,h2,EM h1 (by obtain ⟨n,e⟩:=cv_ objs[i]? (yV (xJ objs.length l) o);exact ⟨n,e▸h3⟩) h4 h⟩
    ·unfold aG at h;rw [h1] at h;exact h.elim
  have hX:GK false (n7 Mut ρ objs l) ρ' o' Mut (BK ρ ρ' objs.length l) (lF objs l o'):=by
    intro b k hb h h'
    have hb:b=false:=by cases b<;>simp_all
    subst hb
    rcases h' with ⟨i,hi⟩ | ⟨_,hm⟩
    ·rcases foot i k hi with ⟨_,h2,h3⟩ | ⟨j,_,h3⟩
     ·exact h (.inr ⟨rfl, .inr ⟨i,h2,h3⟩⟩)
     ·exact h (.inl ⟨j,h3⟩)
    ·exact h (.inr ⟨rfl, .inl hm⟩)
  have lfoot:∀b,bJ (pI ρ l) (lS objs l) b→bJ ρ objs b:=fun b ⟨j,hj⟩=>by
    obtain ⟨i,_,h⟩:=hZ hl hj;exact ⟨i,h⟩
  have W:WStep w w' (bJ ρ objs) (bJ (BK ρ ρ' objs.length l) (lF objs l o')):=by
    refine ⟨fun b hb hf=>S'.frame b hb (fun h=>hf (lfoot b h)),S'.size,fun b ⟨i,hi⟩=> ?_⟩
    rcases foot i b hi with ⟨_,_,h⟩ | ⟨j,_,h⟩
    ·exact .inl ⟨i,h⟩
    ·rcases (S'.live b ⟨j,h⟩).2 with h | h
     ·exact .inl (lfoot b h)
     ·exact .inr h
  have hcm:∀i,Compat ρ objs (BK ρ ρ' objs.length l) (lF objs l o') i:=by
    intro i
    by_cases hi:i<objs.length
    ·rcases cs i with ⟨h1,h2,h3,h4⟩ | ⟨j,o,h1,h2,h3,h4⟩ | h1
     ·exact Compat.of_eq (fun _=>h3) (fun _=>h4)
     ·
       have hj:l[j]? =some i:=by
         unfold xJ at h2
         split at h2
         ·rename_i i' hj;cases h2;exact hj
         ·cases h2;omega
       have hc:=S'.comp j
       have hjl:=(List.getElem?_eq_some_iff.mp hj).1
       have hlo:(lS objs l)[j]? =some (yV (zH l · 0) objs[i]):=by
         simp only [lS,List.getElem?_map,hj,Option.map_some,List.getElem?_eq_getElem hi]
       have hlρ:pI ρ l j=ρ i:=by simp [pI,List.getD,hj]
       have gone:NB o' j→NB (lF objs l o') i:=fun ⟨e1,e2,e3,e4⟩=>by
         unfold m9 at e1;unfold mX at e2;unfold NQ at e3;unfold yK at e4
         rw [h1] at e1 e2 e3 e4
         cases o with
         | dead=>exact aZ h3
         | box cs=>cases e1
         | sl t xs=>cases e2
         | mp k v es hh=>cases e3
         | rw t xs g hh=>cases e4
         | rp t xs n=>cases e4
       have hcw:=hc
       replace hc:(∀t xs g ho,(lS objs l)[j]? ≠some (.rw t xs g ho))→Compat (pI ρ l) (lS objs l) ρ' o' j:=fun hno=>by
         unfold CompW at hc
         split at hc
         ·rename_i e;exact absurd e (hno _ _ _ _)
         ·exact hc
       unfold Compat at hc⊢
       unfold CompW at hcw
       rw [List.getElem?_eq_getElem hi] at h3⊢
       simp only [hlo] at hc hcw
       cases ho:objs[i] with
       | dead=>
         simp only [ho,yV] at hc⊢
         exact gone (hc (by simp))
       | box cs'=>
         simp only [ho,yV] at hc⊢
         rcases hc (by simp) with ⟨cs2,e1,e2⟩ | hc
         ·rw [h1] at e1;cases e1
          exact .inl ⟨_,h3,by rw [h4,e2,hlρ]⟩
         ·exact .inr (gone hc)
       | sl t xs=>
         simp only [ho,yV] at hc⊢
         rcases hc (by simp) with ⟨ys,e1,e2,e3⟩ | hc
         ·rw [h1] at e1;cases e1
          exact .inl ⟨_,h3,e2,by rw [h4,e3,hlρ]⟩
         ·exact .inr (gone hc)
       | mp k v es hh=>
         simp only [ho,yV] at hc⊢
         rcases hc (by simp) with ⟨es',hh',e1,e2⟩ | hc
         ·rw [h1] at e1;cases e1
          exact .inl ⟨es',_,h3,by rw [h4,e2,hlρ]⟩
         ·exact .inr (gone hc)
       | rw t xs g hh=>
         cases hh with
         | some p=>
           simp only [ho,yV] at hc⊢
           exact .inr (gone (hc (by simp)))
         | none=>
           simp only [ho,yV] at hcw⊢
           rcases hcw with ⟨ys,g',h',e1,e2,e3⟩ | hcw
           ·rw [h1] at e1;cases e1
            cases h' with
            | none=>exact .inl ⟨ys,g+1,none,by rw [h3,ho];rfl,e2,by rw [h4,←hlρ];exact e3,by omega,fun h=>by omega⟩
            | some p=>exact .inr (aZ h3)
           ·exact .inr (gone hcw)
       | rp t xs n=>
         simp only [ho,yV] at hc⊢
         rcases hc (by simp) with ⟨ys,e1,e2,e3⟩ | hc
         ·rcases jI e1 with ⟨g',h',e5⟩ | ⟨n',e5⟩
          ·rw [h1] at e5;cases e5
           cases h' with
           | none=>exact .inl ⟨ys,cO (by rw [h3,ho];rfl),e2,by rw [h4,←hlρ];exact e3⟩
           | some p=>exact .inr (aZ h3)
          ·rw [h1] at e5;cases e5
           exact .inl ⟨ys,gO h3,e2,by rw [h4,←hlρ];exact e3⟩
         ·exact .inr (gone hc)
     ·have:(lF objs l o').length=objs.length+(o'.length-l.length):=by simp [lF,dH]
      rw [List.getElem?_eq_none_iff] at h1;omega
    ·unfold Compat
     rw [List.getElem?_eq_none (by omega)];trivial
  have hlen2:objs.length≤(lF objs l o').length:=by simp [lF,dH]
  refine ⟨S.step W hlen2 hcm (fun i=> ?_) (fun i j b hi hj=> ?_) S'.os S'.tape S'.output,fun v u h1 h2 h=>G9 HC G hX (fun _=>h1) (fun _=>h2) h⟩
  ·rcases cs i with ⟨h1,h2,h3,h4⟩ | ⟨j,o,h1,h2,h3,h4⟩ | h1
   ·refine ORel.step W hlen2 hcm (S.ob i) h3 h4 (fun b hb=>S'.frame b (S.flt hb) (fun ⟨j,hj⟩=> ?_))
    obtain ⟨p,g1,g2⟩:=hZ hl hj
    exact h2 (S.inj i p b hb g2▸List.mem_of_getElem? g1)
   ·exact ORel.ren HC G hX h2 h1 (fun _=>hs o (List.mem_of_getElem? h1)) (S'.ob j)
   ·unfold ORel;rw [h1];trivial
  ·rcases foot i b hi with ⟨h1,h2,h3⟩ | ⟨p,h2,h3⟩<;>rcases foot j b hj with ⟨g1,g2,g3⟩ | ⟨q,g2,g3⟩
   ·exact S.inj i j b h3 g3
   ·exact absurd (.inr ⟨i,h2,h3⟩) (S'.live b ⟨q,g3⟩).1
   ·exact absurd (.inr ⟨j,g2,g3⟩) (S'.live b ⟨p,h3⟩).1
   ·have:=S'.inj p q b h3 g3
    subst this
    rw [h2] at g2;cases g2;rfl
end
end Km
namespace Km
open Go
variable {κ:Type} {Ty:κ→Type} {R:Type}
section
variable {P:Program} {C:Cod κ Ty} {T:TypeId→Option (TI κ Ty)}
variable {Mut:Nat→Prop} {Lent:Org κ Ty} {w0 w w':World} {ρ ρ' ρ2:Nat→Loc} {env:Env κ Ty} {objs objs' objs2:aH κ Ty} {tm:Array Value}
theorem uM {v:AV κ Ty} {u:Value} (h:VRel C w Mut ρ objs v u):∀i∈kV v,i<objs.length:=by
  intro i hi
  cases h<;>simp only [kV,List.mem_singleton,List.not_mem_nil] at hi
  case ref h1=>subst hi;exact (List.getElem?_eq_some_iff.mp h1).1
  case refd=>subst hi;assumption
  case eref h1 h2=>subst hi;exact (List.getElem?_eq_some_iff.mp h1).1
  case erefd=>subst hi;assumption
  case own h1 h2=>subst hi;exact (List.getElem?_eq_some_iff.mp h1).1
  case ownd=>subst hi;assumption
  case sub h1 _ _ _ _ _=>subst hi;exact (List.getElem?_eq_some_iff.mp h1).1
  case subd=>subst hi;assumption
  case mapv h1=>subst hi;exact (List.getElem?_eq_some_iff.mp h1).1
  case mapd=>subst hi;assumption
  case rwv h1 _=>subst hi;exact R8 h1
  case rwvd=>subst hi;assumption
  case rwp h1 _=>subst hi;exact R8 h1
  case rwpd=>subst hi;assumption
  case xr e _ _ _=>subst hi;exact (List.getElem?_eq_some_iff.mp e).1
  case xrd=>subst hi;assumption
theorem bK_ {v:AV κ Ty} {u:Value} (h:VRel C w Mut ρ objs v u):∀i∈rO v,i<objs.length:=by
  by_cases hv:∃cs,v= .agg cs
  ·obtain ⟨cs,rfl⟩:=hv
   intro i hi
   simp only [rO,List.mem_flatMap] at hi
   obtain ⟨c,hc,hi⟩:=hi
   cases h with
   | agg hl hcell hrel=>
     rename_i us
     obtain ⟨j,hj⟩:=List.getElem?_of_mem hc
     have hjl:=(List.getElem?_eq_some_iff.mp hj).1
     exact uM (hrel j c us[j] hj (List.getElem?_eq_getElem (by omega))) i hi
  ·have e:rO v=kV v:=by cases v<;>first | rfl | exact absurd ⟨_,rfl⟩ hv
   rw [e];exact uM h
theorem AC {v:AV κ Ty} {u:Value} (h:VRel C w Mut ρ objs v u):∀i∈cU v,i<objs.length:=by
  by_cases hv:∃cs,v= .tup cs
  ·obtain ⟨cs,rfl⟩:=hv
   intro i hi
   simp only [cU,List.mem_flatMap] at hi
   obtain ⟨c,hc,hi⟩:=hi
   cases h with
   | tup hl hrel=>
     rename_i us
     obtain ⟨j,hj⟩:=List.getElem?_of_mem hc
     have hjl:=(List.getElem?_eq_some_iff.mp hj).1
     exact bK_ (hrel j c us[j] hj (List.getElem?_eq_getElem (by omega))) i hi
  ·have e:cU v=rO v:=by cases v<;>first | rfl | exact absurd ⟨_,rfl⟩ hv
   rw [e];exact bK_ h
theorem ez_ {i:Nat} {o:AObj κ Ty} (ho:objs[i]? =some o) (h:ORel C w Mut ρ objs i):∀k∈VG o,k<objs.length:=by
  intro k hk
  unfold ORel at h
  rw [ho] at h
  cases o with
  | dead=>simp [VG] at hk
  | sl t xs=>simp [VG] at hk
  | rw t xs g hh=>simp [VG] at hk
  | rp t xs n=>simp [VG] at hk
  | mp k' v es hh=>
    obtain ⟨mes,h⟩:=h
    simp only [VG] at hk
    split at hk
    ·rename_i i' j
     simp only [List.mem_singleton] at hk
     subst hk
     have hi:=h.hlt _ _ rfl
     have hm:mes[i']? =some (mes[i']'(by rw [h.size];exact hi)):=Array.getElem?_eq_getElem _
     exact uM ((h.hole _ _ _ rfl hm).2 _ rfl) _ (by simp [kV])
    ·simp at hk
  | box cs=>
    simp only [VG,List.mem_flatMap] at hk
    obtain ⟨c,hc,hk⟩:=hk
    obtain ⟨j,hj⟩:=List.getElem?_of_mem hc
    obtain ⟨v,_,_,h3,_⟩:=h.2.1 j c hj
    exact uM h3 k hk
theorem X0 (S:SRel C Mut Lent w0 ρ env objs tm w) {acc:List Nat} (hn:acc.Nodup) (h:∀i∈acc,i<objs.length):∀i∈yQ objs acc,i<objs.length:=by
  have step:∀(l:List Nat),∀i∈l.flatMap (fun i=>match objs[i]? with | some o=>VG o | none=>[]),i<objs.length:=by
    intro l i hi
    simp only [List.mem_flatMap] at hi
    obtain ⟨k,_,hi⟩:=hi
    split at hi
    ·rename_i o ho;exact ez_ ho (S.ob k) i hi
    ·simp at hi
  intro i hi
  unfold yQ at hi
  rw [HP (n8 hn)] at hi
  rcases hi with hi | hi
  ·rw [HP hn] at hi
   rcases hi with hi | hi
   ·exact h i hi
   ·exact step _ i hi
  ·exact step _ i hi
theorem CT:∀(l m:List Nat),disj l m=true↔∀i∈l,i∉m
  | [],m=>by simp [disj]
  | k::l,m=>by
    simp only [disj]
    split
    ·rename_i h;have:=(lG k m).mp h;simp [this]
    ·rename_i h
     have:k∉m:=fun hm=>by rw [(lG k m).mpr hm] at h;cases h
     rw [CT l m];simp [this]
theorem cD_ (HC:bH C) (S:SRel C Mut Lent w0 ρ env objs tm w) {l:List Nat} (hl:∀i∈l,i<objs.length) {x:AV κ Ty} {u:Value} {t:κ} {xs:List (Ty t)} (hx:VRel C w Mut ρ objs x u) (h:tO objs x=some ⟨t,xs⟩)
    (hb:∀i∈au_ x,i∉l):VRel C w (n7 Mut ρ objs l) (pI ρ l) (lS objs l) (.inl true t xs) u:=by
  have hX:=uF (Mut:=Mut) (ρ:=ρ) hl
  obtain ⟨A,c,blk,off,hu,hle,hA,hrow⟩:=tN (a:=⟨tm,[]⟩) HC S hx h
  rw [hu]
  refine .inl (blk:=blk) (off:=off) (vals:=fun i j=>(w.cell? (at' blk (off+i*C.sz t+j))).getD Go.undef) (fun h=>by cases h) hle (fun hne=> ?_) (fun i y j cl h1 h2=> ?_) (fun i y j cl h1 h2=> ?_)
  ·obtain ⟨a1,a2⟩:=hA hne
   refine ⟨a1,a2,fun hXs=> ?_⟩
   rcases hXs with ⟨j,hj⟩ | ⟨hf,_⟩
   ·obtain ⟨i,g1,g2⟩:=hZ hl hj
    cases x<;>simp only [tO] at h
    case nil t'=>cases h;exact hne rfl
    case inl b t' ys=>
      cases h
      cases hx with
      | inl hb' hc hA' hcell hrel=>
        obtain ⟨e1,_,e3⟩:=hA' hne
        simp only [Value.slice.injEq] at hu
        rw [hu.1,a1] at e1
        simp only [Option.some.injEq,at',Addr.mk.injEq] at e1
        exact e3 (.inl ⟨i,e1.1▸g2⟩)
    case own id=>
      have hsl:=cB h
      cases hx with
      | own k1 k2=>
        have ho:=S.ob id
        simp only [ORel,hsl] at ho
        have hc:(ρ id).cap≠0:=by have:=ho.1;have:=List.length_pos_iff.mpr hne;omega
        have e1:=k2 hc
        simp only [Value.slice.injEq] at hu
        rw [hu.1,a1] at e1
        simp only [Option.some.injEq,at',Addr.mk.injEq] at e1
        have:=S.inj i id blk g2 (e1.1▸dA hsl hc)
        subst this
        exact hb i (by simp [au_]) (List.mem_of_getElem? g1)
      | ownd _ _ k1=>rw [k1] at h;cases h
    case sub id lo hi=>
      split at h
      ·rename_i t' ys hsl0
       cases h
       have hsl:=cB hsl0
       cases hx with
       | sub k1 hlo hhi hc hcap hA'=>
         rw [hsl] at k1;cases k1
         have hlen:=iG ys lo hi hhi
         have hpos:=List.length_pos_iff.mpr hne
         have e1:=hA' (by omega)
         simp only [Value.slice.injEq] at hu
         rw [hu.1,a1] at e1
         simp only [Option.some.injEq,at',Addr.mk.injEq] at e1
         have:=S.inj i id blk g2 (e1.1▸dA hsl (by omega))
         subst this
         exact hb i (by simp [au_]) (List.mem_of_getElem? g1)
       | subd _ _ k1=>rw [k1] at hsl0;cases hsl0
      ·cases h
    all_goals cases h
   ·cases hf
  ·obtain ⟨v,a1,a2⟩:=hrow i y j cl h1 h2
   rw [a1];rfl
  ·obtain ⟨v,a1,a2⟩:=hrow i y j cl h1 h2
   rw [a1]
   refine sO HC hX a2 ?_
   rcases HC.deep t y cl (lX HC h2) with ⟨q,rfl⟩ | ⟨s,ys,rfl,_⟩
   ·exact .inl ⟨_,rfl⟩
   ·exact .inr ⟨_,_,_,rfl,fun _=>rfl⟩
theorem bS_ (HC:bH C) (S:SRel C Mut Lent w0 ρ env objs tm w) {l:List Nat} (hl:∀i∈l,i<objs.length) {L:Nat×Nat×Nat} {b:Bool} {s:κ} {ys:List (Ty s)} {v:Value} (h:EntR C w Mut ρ objs L [.inl b s ys] v)
    (hf:L.2.2≠0→∃id,id∉l∧aG ρ objs id L.1):VRel C w (n7 Mut ρ objs l) (pI ρ l) (lS objs l) (.inl true s ys) v:=by
  have hX:=uF (Mut:=Mut) (ρ:=ρ) hl
  obtain ⟨A,rfl,hA,h1,h2,h3,h4⟩:=CW h
  refine .inl (blk:=L.1) (off:=L.2.1) (vals:=fun i j=>(w.cell? (at' L.1 (L.2.1+i*C.sz s+j))).getD Go.undef) (fun h=>by cases h) h1 (fun hne=> ?_) (fun i y j cl g1 g2=> ?_) (fun i y j cl g1 g2=> ?_)
  ·have hc:L.2.2≠0:=by have:=List.length_pos_iff.mpr hne;omega
   refine ⟨hA hc,h2 hc,fun hXs=> ?_⟩
   rcases hXs with ⟨j,hj⟩ | ⟨hf,_⟩
   ·obtain ⟨i,g1,g2⟩:=hZ hl hj
    obtain ⟨id,k1,k2⟩:=hf hc
    exact k1 (S.inj i id _ g2 k2▸List.mem_of_getElem? g1)
   ·cases hf
  ·obtain ⟨v,a1,a2⟩:=h3 i y j cl g1 g2
   rw [a1];rfl
  ·obtain ⟨v,a1,a2⟩:=h3 i y j cl g1 g2
   rw [a1]
   refine sO HC hX a2 ?_
   rcases HC.deep s y cl (lX HC g2) with ⟨q,rfl⟩ | ⟨s',ys',rfl,_⟩
   ·exact .inl ⟨_,rfl⟩
   ·exact .inr ⟨_,_,_,rfl,fun _=>rfl⟩
theorem SQ (HC:bH C) (S:SRel C Mut Lent w0 ρ env objs tm w) {l:List Nat} (hl:∀i∈l,i<objs.length) {x:AV κ Ty} {u:Value} {t:κ} {xs:List (Ty t)} (hx:VRel C w Mut ρ objs x u) (h:JQ objs x=some ⟨t,xs⟩)
    (hb:∀i∈au_ x,i∉l):VRel C w (n7 Mut ρ objs l) (pI ρ l) (lS objs l) (.inl true t xs) u:=by
  unfold JQ at h
  split at h
  ·rename_i id
   split at h
   ·rename_i t' xs' g e
    cases h
    have ho:=S.ob id
    simp only [ORel,e] at ho
    cases hx with
    | rwv h1 hA=>
      rw [cO e] at h1;cases h1
      have hF:∀b,xI (ρ id) b→aG ρ objs id b:=fun b hb=>by simp only [aG,e];exact hb
      refine .inl (blk:=(ρ id).block) (off:=(ρ id).off) (vals:=fun i j=>(w.cell? (at' (ρ id).block ((ρ id).off+i*C.sz t+j))).getD Go.undef) (fun h=>by cases h) ho.len (fun hne=> ?_) (fun i y j cl g1 g2=> ?_) (fun i y j cl g1 g2=> ?_)
      ·have hc:(ρ id).cap≠0:=by have:=List.length_pos_iff.mpr hne;have:=ho.len;omega
       refine ⟨hA hc,ho.blk hc,fun hXs=> ?_⟩
       rcases hXs with ⟨j,hj⟩ | ⟨hf,_⟩
       ·obtain ⟨i,g1,g2⟩:=hZ hl hj
        have:=S.inj i id _ g2 (hF _ (.inl ⟨hc,rfl⟩))
        subst this
        exact hb i (by simp [au_]) (List.mem_of_getElem? g1)
       ·cases hf
      ·obtain ⟨v,a1,a2⟩:=ho.cell i y j cl g1 g2
       rw [a1];rfl
      ·obtain ⟨v,a1,a2⟩:=ho.cell i y j cl g1 g2
       rw [a1]
       have a2:EntR C w Mut ρ objs ((ρ id).sub (i*C.sz t+j)) [cl] v:=a2
       rcases HC.deep t y cl (lX HC g2) with ⟨q,rfl⟩ | ⟨s',ys',rfl,_⟩
       ·obtain ⟨e1,e2,_⟩:=P3 a2
        show VRel C w _ _ _ _ v
        rw [e1];exact .lit e2
       ·rw [HC.xbor t ho.xcl] at a2⊢
        exact bS_ HC S hl a2 fun hc=>⟨id,hb id (by simp [au_]),hF _ (.inr ⟨_,hc,rfl⟩)⟩
    | rwvd hcl hin h1=>rw [jM (cO e)] at h1;cases h1
   ·cases h
  ·rename_i id g i j t' xs'
   split at h
   ·rename_i s rows g' e
    split at h
    ·rename_i hg
     cases h
     have hg:=Nat.eq_of_beq_eq_true hg
     have ho:=S.ob id
     simp only [ORel,e] at ho
     cases hx with
     | xr hcl e' hgg hv=>
       rw [e] at e';cases e'
       obtain ⟨b,x,A,k1,k2,rfl,k4⟩:=hv hg rfl
       obtain ⟨v,a1,a2⟩:=ho.cell i x j _ k1 k2
       have a2:EntR C w Mut ρ objs ((ρ id).sub (i*C.sz s+j)) [.inl b t xs] v:=a2
       obtain ⟨A',_,_,a3⟩:=CW a2
       exact bS_ (b:=b) HC S hl ⟨A,rfl,k4,a3⟩ fun hc=>⟨id,hb id (by simp [au_]),by simp only [aG,e];exact .inr ⟨_,hc,rfl⟩⟩
     | xrd hcl hin h1=>rw [jM (cO e)] at h1;cases h1
    ·cases h
   ·cases h
  ·exact cD_ HC S hl hx h hb
theorem fL_ (HC:bH C) {b:Bool} {s t:κ} {xs:List (Ty s)} {ys:List (Ty t)} {u:Value} (hT:gU_ C true s xs t ys) (h:VRel C w Mut ρ objs (.inl b s xs) u):VRel C w Mut ρ objs (.inl true t ys) u:=by
  obtain ⟨h1,h2,h3⟩:=hT
  cases h with
  | @inl _ _ _ A c blk off vals hb hc hA hcell hrel=>
    rw [←h2]
    have wk:∀{b0:Bool} {s':κ} {zs:List (Ty s')} {v:Value},VRel C w Mut ρ objs (.inl b0 s' zs) v→VRel C w Mut ρ objs (.inl true s' zs) v:=fun h=>by
      cases h with
      | inl hb hc hA hcell hrel=>exact .inl (fun h=>by cases h) hc (fun hne=>⟨(hA hne).1,(hA hne).2.1,fun hx=>(hA hne).2.2 (hx.elim .inl fun h=>by cases h.1)⟩) hcell hrel
    have old:∀i y,ys[i]? =some y→∃x,xs[i]? =some x:=fun i y hy=>by
      have:=(List.getElem?_eq_some_iff.mp hy).1
      exact ⟨_,List.getElem?_eq_getElem (by omega)⟩
    refine .inl (blk:=blk) (off:=off) (vals:=vals) (fun h=>by cases h) (by omega) (fun hne=> ?_) (fun i y j cl hy hj=> ?_) (fun i y j cl hy hj=> ?_)
    ·have hne':xs≠[]:=fun e=>hne (List.length_eq_zero_iff.mp (by rw [h2,e];rfl))
     exact ⟨(hA hne').1,(hA hne').2.1,fun hx=>(hA hne').2.2 (hx.elim .inl fun h=>by cases h.1)⟩
    ·obtain ⟨x,hx⟩:=old i y hy
     obtain ⟨c0,hc0,_⟩:=h3 i x y hx hy j cl hj
     rw [h1];exact hcell i x j c0 hx hc0
    ·obtain ⟨x,hx⟩:=old i y hy
     obtain ⟨c0,hc0,hh⟩:=h3 i x y hx hy j cl hj
     have hr:=hrel i x j c0 hx hc0
     rcases hh with ⟨v,rfl,rfl⟩ | ⟨b0,s',zs,rfl,rfl⟩
     ·exact hr
     ·exact wk hr
theorem e8_ (HC:bH C) {t:κ} {xs:List (Ty t)} {u:Value} (h:VRel C w Mut ρ objs (.inl true t xs) u):VRel C w Mut ρ objs (upV C t xs) u:=by
  unfold upV
  split
  ·rename_i e;exact fL_ HC (HC.up _ _ _ _ e) h
  ·exact h
theorem QE (C:Cod κ Ty) (t:κ) (xs:List (Ty t)):∃(t':κ) (ys:List (Ty t')),upV C t xs= .inl true t' ys:=by
  unfold upV;split<;>exact ⟨_,_,rfl⟩
theorem YY (HC:bH C) (S:SRel C Mut Lent w0 ρ env objs tm w) {l:List Nat} (hn:l.Nodup) (hl:∀i∈l,i<objs.length) (m:G7) {x:AV κ Ty} {u:Value} (hx:VRel C w Mut ρ objs x u) (hb:m= .bo∨m= .bu→∀i∈au_ x,i∉l):
    VRel C w (n7 Mut ρ objs l) (pI ρ l) (lS objs l) (yC (zH l · 0) (MD C objs m x)) u:=by
  have hr:VRel C w (n7 Mut ρ objs l) (pI ρ l) (lS objs l) (yC (zH l · 0) x) u:=DM HC (CD ρ objs l) (uF hl) (fun h=>by cases h) hx
  cases m with
  | mv=>exact hr
  | pe=>exact hr
  | bo=>
    simp only [MD]
    split
    ·rename_i t xs h
     exact SQ HC S hl hx h (hb (.inl rfl))
    ·exact hr
  | gv=>exact hr
  | bu=>
    simp only [MD]
    split
    ·rename_i t xs h
     obtain ⟨t',ys,e⟩:=QE C t xs
     have:=e8_ HC (SQ HC S hl hx h (hb (.inr rfl)))
     rw [e] at this⊢
     exact this
    ·exact hr
theorem RO (HC:bH C) (S:SRel C Mut Lent w0 ρ env objs tm w) {l:List Nat} (hn:l.Nodup) (hl:∀i∈l,i<objs.length) (m:G7) {x:AV κ Ty} {u:Value} (hx:VRel C w Mut ρ objs x u) (hb:∀i∈f4_ m x,i∉l):
    VRel C w (n7 Mut ρ objs l) (pI ρ l) (lS objs l) (HW (zH l · 0) (A6 C objs m x)) u:=by
  by_cases hv:∃cs,x= .agg cs
  ·obtain ⟨cs,rfl⟩:=hv
   cases hx with
   | agg hle hcell hrel=>
     refine .agg (by simpa using hle) hcell (fun j cl u hj hu=> ?_)
     simp only [List.map_map,List.getElem?_map,Option.map_eq_some_iff,Function.comp] at hj
     obtain ⟨c,hc,rfl⟩:=hj
     refine YY HC S hn hl m (hrel j c u hc hu) (fun hm i hi=>hb i ?_)
     rcases hm with rfl | rfl
     ·simp only [f4_,List.mem_flatMap]
      exact ⟨c,List.mem_of_getElem? hc,hi⟩
     ·simp only [f4_,List.mem_flatMap]
      exact ⟨c,List.mem_of_getElem? hc,hi⟩
  ·by_cases ht:∃vs,x= .tup vs
   ·obtain ⟨vs,rfl⟩:=ht
    have e:A6 C objs m (.tup vs)= .tup vs:=by cases m<;>rfl
    rw [e]
    exact G9 HC (CD ρ objs l) (uF hl) (fun h=>by cases h) (fun h=>by cases h) hx
   ·have e:A6 C objs m x=MD C objs m x:=by cases x<;>first | rfl | exact absurd ⟨_,rfl⟩ hv
    have e2:HW (zH l · 0) (MD C objs m x)=yC (zH l · 0) (MD C objs m x):=by
      cases m<;>simp only [MD]
      ·cases x<;>first | rfl | exact absurd ⟨_,rfl⟩ hv | exact absurd ⟨_,rfl⟩ ht
      ·split
       ·rfl
       ·cases x<;>first | rfl | exact absurd ⟨_,rfl⟩ hv | exact absurd ⟨_,rfl⟩ ht
      ·cases x<;>first | rfl | exact absurd ⟨_,rfl⟩ hv | exact absurd ⟨_,rfl⟩ ht
      ·cases x<;>first | rfl | exact absurd ⟨_,rfl⟩ hv | exact absurd ⟨_,rfl⟩ ht
      ·split
       ·rename_i t xs _
        obtain ⟨t',ys,e⟩:=QE C t xs
        rw [e];rfl
       ·cases x<;>first | rfl | exact absurd ⟨_,rfl⟩ hv | exact absurd ⟨_,rfl⟩ ht
    rw [e,e2]
    refine YY HC S hn hl m hx (fun hm i hi=>hb i ?_)
    rcases hm with rfl | rfl<;>cases x<;>first | exact hi | exact absurd ⟨_,rfl⟩ hv
theorem P4 (HC:bH C) (S:SRel C Mut Lent w0 ρ env objs tm w) {l:List Nat} (hn:l.Nodup) (hl:∀i∈l,i<objs.length):∀(xs:List (AV κ Ty)) (ms:List G7) (us:List Value),us.length=xs.length→
    (∀(j:Nat) (x:AV κ Ty) (u:Value),xs[j]? =some x→us[j]? =some u→VRel C w Mut ρ objs x u)→(∀i∈cM_ xs ms,i∉l)→
    (mW C objs xs ms).length=xs.length∧∀(j:Nat) (x:AV κ Ty) (u:Value),((mW C objs xs ms).map (HW (zH l · 0)))[j]? =some x→us[j]? =some u→VRel C w (n7 Mut ρ objs l) (pI ρ l) (lS objs l) x u
  | [],ms,us,hlen,_,_=>by cases ms<;>exact ⟨rfl,fun j x u h=>by simp [mW] at h⟩
  | x::xs,ms,[],hlen,_,_=>by simp at hlen
  | x::xs,m::ms,u::us,hlen,h,hb=>by
    obtain ⟨h1,h2⟩:=P4 HC S hn hl xs ms us (by simpa using hlen) (fun j y v a b=>h (j+1) y v (by simpa using a) (by simpa using b)) (fun i hi=>hb i (by simp [cM_,hi]))
    refine ⟨by simp [mW,h1],fun j y v a b=> ?_⟩
    cases j with
    | zero=>
      simp [mW] at a b
      subst a;subst b
      exact RO HC S hn hl m (h 0 x _ rfl rfl) (fun i hi=>hb i (by simp [cM_,hi]))
    | succ j=>exact h2 j y v (by simpa [mW] using a) (by simpa using b)
  | x::xs,[],u::us,hlen,h,hb=>by
    obtain ⟨h1,h2⟩:=P4 HC S hn hl xs [] us (by simpa using hlen) (fun j y v a b=>h (j+1) y v (by simpa using a) (by simpa using b)) (fun i hi=>hb i (by simp [cM_,hi]))
    refine ⟨by simp [mW,h1],fun j y v a b=> ?_⟩
    cases j with
    | zero=>
      simp [mW] at a b
      subst a;subst b
      exact RO HC S hn hl .bo (h 0 x _ rfl rfl) (fun i hi=>hb i (by simp [cM_,hi]))
    | succ j=>exact h2 j y v (by simpa [mW] using a) (by simpa using b)
theorem c2_ (S:SRel C Mut Lent w0 ρ env objs tm w) (m:G7) {x:AV κ Ty} {u:Value} (hx:VRel C w Mut ρ objs x u):∀i∈kV (MD C objs m x),i<objs.length:=by
  cases m with
  | mv=>exact uM hx
  | pe=>exact uM hx
  | bo=>
    simp only [MD]
    split
    ·intro i hi;simp [kV] at hi
    ·exact uM hx
  | gv=>exact uM hx
  | bu=>
    simp only [MD]
    split
    ·rename_i t xs _
     obtain ⟨t',ys,e⟩:=QE C t xs
     rw [e];intro i hi;simp [kV] at hi
    ·exact uM hx
theorem RT (S:SRel C Mut Lent w0 ρ env objs tm w) (m:G7) {x:AV κ Ty} {u:Value} (hx:VRel C w Mut ρ objs x u):∀i∈cU (A6 C objs m x),i<objs.length:=by
  by_cases hv:∃cs,x= .agg cs
  ·obtain ⟨cs,rfl⟩:=hv
   intro i hi
   simp only [A6,cU,rO,List.mem_flatMap,List.mem_map] at hi
   obtain ⟨c',⟨c,hc,rfl⟩,hi⟩:=hi
   cases hx with
   | agg hle hcell hrel=>
     rename_i us
     obtain ⟨j,hj⟩:=List.getElem?_of_mem hc
     have hjl:=(List.getElem?_eq_some_iff.mp hj).1
     exact c2_ S m (hrel j c us[j] hj (List.getElem?_eq_getElem (by omega))) i hi
  ·have e:A6 C objs m x=MD C objs m x:=by cases x<;>first | rfl | exact absurd ⟨_,rfl⟩ hv
   rw [e]
   cases m with
   | mv=>exact AC hx
   | pe=>exact AC hx
   | bo=>
     simp only [MD]
     split
     ·intro i hi;simp [cU,rO,kV] at hi
     ·exact AC hx
   | gv=>exact AC hx
   | bu=>
     simp only [MD]
     split
     ·rename_i t xs _
      obtain ⟨t',ys,e⟩:=QE C t xs
      rw [e];intro i hi;simp [cU,rO,kV] at hi
     ·exact AC hx
theorem K6 (S:SRel C Mut Lent w0 ρ env objs tm w):∀(xs:List (AV κ Ty)) (ms:List G7) (us:List Value),us.length=xs.length→
    (∀(j:Nat) (x:AV κ Ty) (u:Value),xs[j]? =some x→us[j]? =some u→VRel C w Mut ρ objs x u)→∀i∈(mW C objs xs ms).flatMap cU,i<objs.length
  | [],ms,us,_,_=>by cases ms<;>simp [mW]
  | x::xs,ms,[],hlen,_=>by simp at hlen
  | x::xs,m::ms,u::us,hlen,h=>by
    intro i hi
    simp only [mW,List.flatMap_cons,List.mem_append] at hi
    rcases hi with hi | hi
    ·exact RT S m (h 0 x u rfl rfl) i hi
    ·exact K6 S xs ms us (by simpa using hlen) (fun j y v a b=>h (j+1) y v (by simpa using a) (by simpa using b)) i hi
  | x::xs,[],u::us,hlen,h=>by
    intro i hi
    simp only [mW,List.flatMap_cons,List.mem_append] at hi
    rcases hi with hi | hi
    ·exact RT S .bo (h 0 x u rfl rfl) i hi
    ·exact K6 S xs [] us (by simpa using hlen) (fun j y v a b=>h (j+1) y v (by simpa using a) (by simpa using b)) i hi
theorem WL [G:GlobOk C Mut Lent w0] (HC:bH C) (S:SRel C Mut Lent w0 ρ env objs tm w) {f:FuncId} {Sm:bU κ Ty} (hS:SummOk P C f Sm) {xs:List (AV κ Ty)} {us:List Value} (hlen:us.length=xs.length)
    (hx:∀(j:Nat) (x:AV κ Ty) (u:Value),xs[j]? =some x→us[j]? =some u→VRel C w Mut ρ objs x u) {K:AV κ Ty→aH κ Ty→Option R} {r:R}
    (h:JB objs Sm (cM_ xs Sm.modes) (mW C objs xs Sm.modes) K=some r):
    Calls P f us.toArray w fun e w'=>∃v u objs' ρ',e= .returned u∧K v objs'=some r∧SRel C Mut Lent w0 ρ' env objs' tm w'∧VRel C w' Mut ρ' objs' v u:=by
  unfold JB at h
  dsimp only at h
  split at h
  ·cases h
  ·rename_i hd
   have hd:=(CT _ _).mp hd
   obtain ⟨q,hq,h⟩:=bind_some h
   have hn:(yQ objs (E3 [] ((mW C objs xs Sm.modes).flatMap cU))).Nodup:=HY (n8 List.nodup_nil)
   have hl:∀i∈yQ objs (E3 [] ((mW C objs xs Sm.modes).flatMap cU)),i<objs.length:=X0 S (n8 List.nodup_nil) (fun i hi=>by
     rw [HP List.nodup_nil] at hi
     rcases hi with hi | hi
     ·simp at hi
     ·exact K6 S xs Sm.modes us hlen hx i hi)
   generalize yQ objs (E3 [] ((mW C objs xs Sm.modes).flatMap cU))=l at h hd hq hn hl
   obtain ⟨a1,a2⟩:=P4 HC S hn hl xs Sm.modes us hlen hx hd
   refine (hS.2 _ _ q hq (n7 Mut ρ objs l) (pI ρ l) us.toArray w (by simp [a1,hlen]) (fun j x u hj hu=>a2 j x u hj (by simpa using hu)) (ZC HC S hn hl) (fun b hb=> .inl (G.mt b hb).1) (GlobOk.now HC S)).mono ?_
   rintro e w' ⟨v,ρ',rfl,h1,h2,h3,h4,h5⟩
   obtain ⟨b1,b2⟩:=bL_ HC S hn hl h2 h3
   exact ⟨_,v,_,_,rfl,h,b1,b2 _ _ h4 h5 h1⟩
end
end Km
namespace Km
open Go
variable {κ:Type} {Ty:κ→Type} {R:Type}
section
variable {P:Program} {C:Cod κ Ty} {T:TypeId→Option (TI κ Ty)}
variable {Mut:Nat→Prop} {Lent:Org κ Ty} {w0 w w':World} {ρ ρ' ρ2:Nat→Loc} {env:Env κ Ty} {objs objs' objs2:aH κ Ty} {tm:Array Value}
theorem SRel.takeX1 (HC:bH C) (S:SRel C Mut Lent w0 ρ env objs tm w) {id g i j:Nat} {t s:κ} {ys:List (Ty t)} {rows:List (Ty s)} (e:objs[id]? =some (.rw s rows g none)) {u:Value} (hx:VRel C w Mut ρ objs (.xr id g i j t ys) u):
    ∃ρ',SRel C Mut Lent w0 ρ' env (objs.set id (.rw s rows g (some (i,j,objs.length)))++[.sl t ys]) tm w∧(∀v q,VRel C w Mut ρ objs v q→VRel C w Mut ρ' (objs.set id (.rw s rows g (some (i,j,objs.length)))++[.sl t ys]) v q)∧
     VRel C w Mut ρ' (objs.set id (.rw s rows g (some (i,j,objs.length)))++[.sl t ys]) (.own objs.length) u:=by
  have hlt:=(List.getElem?_eq_some_iff.mp e).1
  have ho:=S.ob id
  simp only [ORel,e] at ho
  obtain ⟨b0,x,A,k1,k2,rfl,k4⟩:∃b x A,rows[i]? =some x∧(C.enc s x)[j]? =some (.inl b t ys)∧u= .slice A ys.length ((ρ id).sub (i*C.sz s+j)).2.2∧(((ρ id).sub (i*C.sz s+j)).2.2≠0→A=some (at' ((ρ id).sub (i*C.sz s+j)).1 ((ρ id).sub (i*C.sz s+j)).2.1)):=by
    cases hx with
    | xr hcl e' hgg hv=>rw [e] at e';cases e';exact hv rfl rfl
    | xrd hcl hin h1=>rw [jM (cO e)] at h1;cases h1
  have hjs:j<C.sz s:=by have:=(List.getElem?_eq_some_iff.mp k2).1;rwa [HC.len] at this
  obtain ⟨v0,c1,c2⟩:=ho.cell i x j _ k1 k2
  have c2:EntR C w Mut ρ objs ((ρ id).sub (i*C.sz s+j)) [.inl b0 t ys] v0:=c2
  obtain ⟨A0,rfl,c3,c4⟩:=CW c2
  generalize hL:(ρ id).sub (i*C.sz s+j)=L0 at*
  let sub':Nat→Nat×Nat×Nat:=fun q=>if q=i*C.sz s+j then (0,0,0) else (ρ id).sub q
  let ρ1:=upd ρ id ⟨(ρ id).block,(ρ id).off,(ρ id).cap,sub'⟩
  let ρ':=upd ρ1 objs.length ⟨L0.1,L0.2.1,L0.2.2,noSub⟩
  have r1:ρ' id=⟨(ρ id).block,(ρ id).off,(ρ id).cap,sub'⟩:=(dJ _ _ _ (by omega)).trans (aV _ _ _)
  have r2:ρ' objs.length=⟨L0.1,L0.2.1,L0.2.2,noSub⟩:=aV _ _ _
  have r3:∀k,k<objs.length→k≠id→ρ' k=ρ k:=fun k h1 h2=>(dJ _ _ _ (by omega)).trans (dJ _ _ _ h2)
  generalize ho1:(AObj.rw s rows g (some (i,j,objs.length)):AObj κ Ty)=o1
  have g1:(objs.set id o1++[.sl t ys])[id]? =some o1:=by rw [List.getElem?_append_left (by simpa using hlt)];simp [hlt]
  have g2:(objs.set id o1++[.sl t ys])[objs.length]? =some (.sl t ys):=by rw [List.getElem?_append_right (by simp)];simp
  have g3:∀k,k<objs.length→k≠id→(objs.set id o1++[AObj.sl t ys])[k]? =objs[k]? :=fun k h1 h2=>by rw [List.getElem?_append_left (by simpa using h1),List.getElem?_set_ne (Ne.symm h2)]
  have g4:∀k,objs.length<k→(objs.set id o1++[AObj.sl t ys])[k]? =none:=fun k h=>List.getElem?_eq_none (by simp;omega)
  have hF:∀b,xI (ρ id) b→aG ρ objs id b:=fun b hb=>by simp only [aG,e];exact hb
  have hsub:∀q,(sub' q).2.2≠0→q≠i*C.sz s+j∧((ρ id).sub q).2.2≠0∧sub' q=(ρ id).sub q:=fun q hq=>by
    by_cases hin:q=i*C.sz s+j
    ·have:sub' q=(0,0,0):=if_pos hin
     rw [this] at hq;exact absurd rfl hq
    ·have e:sub' q=(ρ id).sub q:=if_neg hin
     rw [e] at hq;exact ⟨hin,hq,e⟩
  have hft:∀k b,aG ρ' (objs.set id o1++[AObj.sl t ys]) k b→(k<objs.length∧aG ρ objs k b∧(L0.2.2≠0→b≠L0.1))∨(k=objs.length∧L0.2.2≠0∧b=L0.1∧aG ρ objs id b):=fun k b h=>by
    by_cases h1:k=id
    ·subst h1
     unfold aG at h
     rw [g1,r1,←ho1] at h
     refine .inl ⟨hlt, ?_⟩
     rcases h with ⟨h1,h2⟩ | ⟨q,h1,h2⟩
     ·refine ⟨hF _ (.inl ⟨h1,h2⟩),fun hc he=> ?_⟩
      exact ho.own _ (by rw [hL];exact hc) (by rw [hL,←he,←h2])
     ·obtain ⟨q1,q2,q3⟩:=hsub q h1
      dsimp only at h2
      rw [q3] at h2
      refine ⟨hF _ (.inr ⟨q,q2,h2⟩),fun hc he=> ?_⟩
      exact q1 (ho.disj _ _ q2 (by rw [hL];exact hc) (by rw [hL,h2,he]))
    ·rcases Nat.lt_trichotomy k objs.length with h2 | h2 | h2
     ·unfold aG at h
      rw [g3 k h2 h1,r3 k h2 h1] at h
      refine .inl ⟨h2,h,fun hc he=>h1 (S.inj k id b h (hF _ (.inr ⟨_,by rw [hL];exact hc,by rw [hL];exact he.symm⟩)))⟩
     ·subst h2
      unfold aG at h
      rw [g2,r2] at h
      obtain ⟨h2,h3⟩:=h
      exact .inr ⟨rfl,h2,h3.symm,hF _ (.inr ⟨_,by rw [hL];exact h2,by rw [hL];exact h3⟩)⟩
     ·unfold aG at h;rw [g4 k h2] at h;exact h.elim
  have W:WStep w w (bJ ρ objs) (bJ ρ' (objs.set id o1++[.sl t ys])):=WStep.same fun b ⟨k,hk⟩=>by
    rcases hft k b hk with ⟨_,h,_⟩ | ⟨_,_,_,h⟩
    ·exact ⟨k,h⟩
    ·exact ⟨id,h⟩
  have hlen:objs.length≤(objs.set id o1++[AObj.sl t ys]).length:=by simp
  have hcm:∀k,Compat ρ objs ρ' (objs.set id o1++[.sl t ys]) k:=fun k=>by
    by_cases h1:k=id
    ·subst h1
     unfold Compat
     rw [e]
     exact .inl ⟨rows,g,_,by rw [g1,←ho1],rfl,by rw [r1];exact ⟨rfl,rfl,rfl⟩,Nat.le_refl _,fun _ h=>by cases h⟩
    ·exact Compat.of_eq (fun h=>g3 k h h1) (fun h=>r3 k h h1)
  have hv:∀v q,VRel C w Mut ρ objs v q→VRel C w Mut ρ' (objs.set id o1++[.sl t ys]) v q:=fun v q h=>h.step W hlen hcm
  have hown:∀A',(L0.2.2≠0→A'=some (at' L0.1 L0.2.1))→VRel C w Mut ρ' (objs.set id o1++[.sl t ys]) (.own objs.length) (.slice A' ys.length L0.2.2):=fun A' hA'=>by
    have:=VRel.own (C:=C) (w:=w) (Mut:=Mut) (ρ:=ρ') (A:=A') g2 (by rw [r2];exact hA')
    rw [r2] at this
    exact this
  refine ⟨ρ',S.step W hlen hcm (fun k=> ?_) (fun k k' b hk hk'=> ?_) rfl rfl rfl,hv,hown A k4⟩
  ·by_cases h1:k=id
   ·subst h1
    unfold ORel
    rw [g1,r1,←ho1]
    refine ⟨ho.xcl,ho.len,ho.blk,fun i' x' j' cl hx hj=> ?_,ho.room,fun q hq=> ?_,fun p q hp hq hpq=> ?_,fun q hq=> ?_,fun q hq=> ?_⟩
    ·have hjs':j'<C.sz s:=by have:=(List.getElem?_eq_some_iff.mp hj).1;rwa [HC.len] at this
     obtain ⟨v,a1,a2⟩:=ho.cell i' x' j' cl hx hj
     refine ⟨v,a1, ?_⟩
     dsimp only
     by_cases hij:i'=i∧j'=j
     ·obtain ⟨rfl,rfl⟩:=hij
      have e0:sub' (i'*C.sz s+j')=(0,0,0):=if_pos rfl
      have ek:bn_ (some (i',j',objs.length)) i' j'= .hole objs.length:=by simp [bn_]
      rw [e0,ek]
      rw [c1] at a1;cases a1
      refine ⟨rfl, ?_⟩
      have:=hown A0 c3
      rw [←ho1] at this
      exact this
     ·have hne:i'*C.sz s+j'≠i*C.sz s+j:=by
        by_cases hi:i'=i
        ·subst hi;intro h;exact hij ⟨rfl,by omega⟩
        ·exact XV hjs' hjs hi
      have e0:sub' (i'*C.sz s+j')=(ρ k).sub (i'*C.sz s+j'):=if_neg hne
      have ek:bn_ (some (i,j,objs.length)) i' j'= .own:=by
        unfold bn_;dsimp only;rw [if_neg hij]
      rw [e0,ek]
      have a2:EntR C w Mut ρ objs ((ρ k).sub (i'*C.sz s+j')) [cl] v:=a2
      have:=EntR.step W hlen hcm a2 (fun _ _ _=>rfl)
      rw [←ho1] at this
      exact this
    ·exact ho.zero q (hsub q hq).2.1
    ·dsimp only at hpq
     obtain ⟨_,p1,p2⟩:=hsub p hp
     obtain ⟨_,q1,q2⟩:=hsub q hq
     rw [p2,q2] at hpq
     exact ho.disj p q p1 q1 hpq
    ·obtain ⟨_,q1,q2⟩:=hsub q hq
     dsimp only
     rw [q2];exact ho.own q q1
    ·obtain ⟨_,q1,q2⟩:=hsub q hq
     dsimp only
     rw [q2];exact ho.lt q q1
   ·rcases Nat.lt_trichotomy k objs.length with h2 | h2 | h2
    ·exact ORel.step W hlen hcm (S.ob k) (g3 k h2 h1) (r3 k h2 h1) (fun _ _=>rfl)
    ·subst h2
     unfold ORel
     rw [g2,r2]
     exact c4.step W hlen hcm (fun _=>rfl)
    ·unfold ORel;rw [g4 k h2];trivial
  ·rcases hft k b hk with ⟨h1,h2,h3⟩ | ⟨h1,h2,h3,h4⟩<;>rcases hft k' b hk' with ⟨f1,f2,f3⟩ | ⟨f1,f2,f3,f4⟩
   ·exact S.inj k k' b h2 f2
   ·exact absurd f3 (h3 f2)
   ·exact absurd h3 (f3 h2)
   ·omega
theorem V4 (HC:bH C) (S:SRel C Mut Lent w0 ρ env objs tm w) {m id:Nat} {K:aH κ Ty→Option R} {r:R} (h:R6 C m id objs K=some r):
    ∃objs' ρ',K objs'=some r∧SRel C Mut Lent w0 ρ' env objs' tm w∧∀v u,VRel C w Mut ρ objs v u→VRel C w Mut ρ' objs' v u:=by
  unfold R6 at h
  split at h
  ·rename_i s rows g i j n e
   split at h
   ·rename_i t zs hsl
    split at h
    ·cases h
    ·rename_i hc
     simp only [Bool.or_eq_false_iff,Bool.not_eq_false',Bool.and_eq_true] at hc
     have hjs:j<C.sz s:=Nat.blt_eq.mp hc.2.1
     have hne:id≠n:=fun e=>by rw [e,Nat.beq_refl] at hc;cases hc.1
     replace h:=bind_some h
     obtain ⟨x,hx,h⟩:=h
     split at h
     ·rename_i y hdec
      have hsl':=cB hsl
      have hlt:=(List.getElem?_eq_some_iff.mp e).1
      have hltn:=(List.getElem?_eq_some_iff.mp hsl').1
      have hilt:=(List.getElem?_eq_some_iff.mp hx).1
      have henc:=HC.dec _ _ _ hdec
      have ho:=S.ob id
      simp only [ORel,e] at ho
      have hn:=S.ob n
      simp only [ORel,hsl'] at hn
      have hcl0:(C.enc s x)[j]? =some ((C.enc s x)[j]'(by rw [HC.len];exact hjs)):=List.getElem?_eq_getElem _
      obtain ⟨v0,c1,c2⟩:=ho.cell i x j _ hx hcl0
      have ek0:bn_ (some (i,j,n)) i j= .hole n:=by simp [bn_]
      rw [ek0] at c2
      obtain ⟨c2,c3⟩:=c2
      generalize hL0:((ρ n).block,(ρ n).off,(ρ n).cap)=L0
      let sub':Nat→Nat×Nat×Nat:=fun q=>if q=i*C.sz s+j then L0 else (ρ id).sub q
      let ρ':=upd ρ id ⟨(ρ id).block,(ρ id).off,(ρ id).cap,sub'⟩
      have r1:ρ' id=⟨(ρ id).block,(ρ id).off,(ρ id).cap,sub'⟩:=aV _ _ _
      have r3:∀k,k≠id→ρ' k=ρ k:=fun k h2=>dJ _ _ _ h2
      generalize ho1:(AObj.rw s (rows.set i y) (g+1) none:AObj κ Ty)=o1 at h
      have g1:((objs.set n .dead).set id o1)[id]? =some o1:=by simp [hlt]
      have g2:((objs.set n .dead).set id o1)[n]? =some .dead:=by rw [List.getElem?_set_ne hne];simp [hltn]
      have g3:∀k,k≠id→k≠n→((objs.set n AObj.dead).set id o1)[k]? =objs[k]? :=fun k h1 h2=>by rw [List.getElem?_set_ne (Ne.symm h1),List.getElem?_set_ne (Ne.symm h2)]
      have hF:∀b,xI (ρ id) b→aG ρ objs id b:=fun b hb=>by simp only [aG,e];exact hb
      have hFn:L0.2.2≠0→aG ρ objs n L0.1:=fun hc=>by
        rw [←hL0] at hc⊢
        exact dA hsl' hc
      have hsub:∀q,(sub' q).2.2≠0→(q=i*C.sz s+j∧L0.2.2≠0∧sub' q=L0)∨(q≠i*C.sz s+j∧((ρ id).sub q).2.2≠0∧sub' q=(ρ id).sub q):=fun q hq=>by
        by_cases hin:q=i*C.sz s+j
        ·have e:sub' q=L0:=if_pos hin
         rw [e] at hq;exact .inl ⟨hin,hq,e⟩
        ·have e:sub' q=(ρ id).sub q:=if_neg hin
         rw [e] at hq;exact .inr ⟨hin,hq,e⟩
      have hft:∀k b,aG ρ' ((objs.set n AObj.dead).set id o1) k b→(k≠n∧aG ρ objs k b)∨(k=id∧aG ρ objs n b):=fun k b h=>by
        by_cases h1:k=id
        ·subst h1
         unfold aG at h
         rw [g1,r1,←ho1] at h
         rcases h with h1 | ⟨q,h1,h2⟩
         ·exact .inl ⟨hne,hF _ (.inl h1)⟩
         ·dsimp only at h2
          rcases hsub q h1 with ⟨_,h3,h4⟩ | ⟨_,h3,h4⟩
          ·rw [h4] at h2;exact .inr ⟨rfl,h2▸hFn h3⟩
          ·rw [h4] at h2;exact .inl ⟨hne,hF _ (.inr ⟨q,h3,h2⟩)⟩
        ·by_cases h2:k=n
         ·subst h2;unfold aG at h;rw [g2] at h;exact h.elim
         ·unfold aG at h
          rw [g3 k h1 h2,r3 k h1] at h
          exact .inl ⟨h2,h⟩
      have W:WStep w w (bJ ρ objs) (bJ ρ' ((objs.set n .dead).set id o1)):=WStep.same fun b ⟨k,hk⟩=>by
        rcases hft k b hk with ⟨_,h⟩ | ⟨_,h⟩
        ·exact ⟨k,h⟩
        ·exact ⟨n,h⟩
      have hlen:objs.length≤((objs.set n AObj.dead).set id o1).length:=by simp
      have hcm:∀k,Compat ρ objs ρ' ((objs.set n .dead).set id o1) k:=fun k=>by
        by_cases h1:k=id
        ·subst h1
         unfold Compat
         rw [e]
         exact .inl ⟨rows.set i y,g+1,none,by rw [g1,←ho1],by simp,by rw [r1];exact ⟨rfl,rfl,rfl⟩,by omega,fun h=>by omega⟩
        ·by_cases h2:k=n
         ·subst h2;exact AZ g2
         ·exact Compat.of_eq (fun h=>g3 k h1 h2) (fun h=>r3 k h1)
      refine ⟨_,ρ',h,S.step W hlen hcm (fun k=> ?_) (fun k k' b hk hk'=> ?_) rfl rfl rfl,fun v u h=>h.step W hlen hcm⟩
      ·by_cases h1:k=id
       ·subst h1
        unfold ORel
        rw [g1,r1,←ho1]
        have cross:∀q,L0.2.2≠0→((ρ k).sub q).2.2≠0→L0.1≠((ρ k).sub q).1:=fun q h1 h2 he=>hne (S.inj n k _ (hFn h1) (he▸hF _ (.inr ⟨q,h2,rfl⟩))).symm
        have hob:L0.2.2≠0→L0.1≠(ρ k).block:=fun h1 he=>by
          have hcp:(ρ k).cap≠0:=by have:=ho.len;omega
          exact hne (S.inj n k _ (hFn h1) (he▸hF _ (.inl ⟨hcp,rfl⟩))).symm
        refine ⟨ho.xcl,by simpa using ho.len,ho.blk,fun i' x' j' cl hx' hj=> ?_,ho.room,fun q hq=> ?_,fun p q hp hq hpq=> ?_,fun q hq=> ?_,fun q hq=> ?_⟩
        ·have hjs':j'<C.sz s:=by have:=(List.getElem?_eq_some_iff.mp hj).1;rwa [HC.len] at this
         dsimp only
         by_cases hij:i'=i∧j'=j
         ·obtain ⟨rfl,rfl⟩:=hij
          simp only [List.getElem?_set_self hilt,Option.some.injEq] at hx'
          subst hx'
          rw [henc,eT _ _ _ _ (by simp [HC.len];omega),if_pos ⟨Nat.le_refl _,by simp⟩] at hj
          simp only [Nat.sub_self,List.getElem?_cons_zero,Option.some.injEq] at hj
          subst hj
          have e0:sub' (i'*C.sz s+j')=L0:=if_pos rfl
          rw [e0]
          refine ⟨v0,c1, ?_⟩
          cases c3 with
          | own q1 q2=>
            rw [hsl'] at q1;cases q1
            rw [←hL0]
            have hs:SlAt C w Mut ρ objs (ρ n).block (ρ n).off (ρ n).cap t zs:=hn
            have:=hs.step W hlen hcm (fun _=>rfl)
            rw [←ho1] at this
            exact ⟨_,rfl,q2,this⟩
          | ownd _ _ q1=>rw [q1] at hsl;cases hsl
         ·have hne':i'*C.sz s+j'≠i*C.sz s+j:=by
            by_cases hi:i'=i
            ·subst hi;intro h;exact hij ⟨rfl,by omega⟩
            ·exact XV hjs' hjs hi
          have e0:sub' (i'*C.sz s+j')=(ρ k).sub (i'*C.sz s+j'):=if_neg hne'
          have hold:∃x1,rows[i']? =some x1∧(C.enc s x1)[j']? =some cl:=by
            by_cases hi:i'=i
            ·subst hi
             simp only [List.getElem?_set_self hilt,Option.some.injEq] at hx'
             subst hx'
             rw [henc,eT _ _ _ _ (by simp [HC.len];omega),if_neg (by
              simp only [List.length_singleton]
              rintro ⟨q1,q2⟩
              exact hij ⟨rfl,by omega⟩)] at hj
             exact ⟨x,hx,hj⟩
            ·rw [List.getElem?_set_ne (Ne.symm hi)] at hx'
             exact ⟨x',hx',hj⟩
          obtain ⟨x1,hx1,hj1⟩:=hold
          obtain ⟨v,a1,a2⟩:=ho.cell i' x1 j' cl hx1 hj1
          have ek:bn_ (some (i,j,n)) i' j'= .own:=by
            unfold bn_;dsimp only;rw [if_neg hij]
          rw [ek] at a2
          refine ⟨v,a1, ?_⟩
          rw [e0]
          have a2:EntR C w Mut ρ objs ((ρ k).sub (i'*C.sz s+j')) [cl] v:=a2
          have:=EntR.step W hlen hcm a2 (fun _ _ _=>rfl)
          rw [←ho1] at this
          exact this
        ·rw [List.length_set]
         rcases hsub q hq with ⟨rfl,_,_⟩ | ⟨_,h2,_⟩
         ·exact pM hilt hjs
         ·exact ho.zero q h2
        ·dsimp only at hpq
         rcases hsub p hp with ⟨p1,p2,p3⟩ | ⟨p1,p2,p3⟩<;>rcases hsub q hq with ⟨q1,q2,q3⟩ | ⟨q1,q2,q3⟩<;>rw [p3,q3] at hpq
         ·omega
         ·exact absurd hpq (cross q p2 q2)
         ·exact absurd hpq.symm (cross p q2 p2)
         ·exact ho.disj p q p2 q2 hpq
        ·dsimp only
         rcases hsub q hq with ⟨_,q2,q3⟩ | ⟨_,q2,q3⟩<;>rw [q3]
         ·exact hob q2
         ·exact ho.own q q2
        ·dsimp only
         rcases hsub q hq with ⟨_,q2,q3⟩ | ⟨_,q2,q3⟩<;>rw [q3]
         ·exact foot_lt (S.ob n) (hFn q2)
         ·exact ho.lt q q2
       ·by_cases h2:k=n
        ·subst h2;unfold ORel;rw [g2];trivial
        ·exact ORel.step W hlen hcm (S.ob k) (g3 k h1 h2) (r3 k h1) (fun _ _=>rfl)
      ·rcases hft k b hk with ⟨h1,h2⟩ | ⟨h1,h2⟩<;>rcases hft k' b hk' with ⟨f1,f2⟩ | ⟨f1,f2⟩
       ·exact S.inj k k' b h2 f2
       ·exact absurd (S.inj k n b h2 f2) h1
       ·exact absurd (S.inj k' n b f2 h2) f1
       ·omega
     ·cases h
   ·cases h
  ·exact ⟨objs,ρ,h,S,fun v u h=>h⟩
theorem FT (HC:bH C) {m:Nat} {K:aH κ Ty→Option R} {r:R}:∀(l:List Nat) {ρ:Nat→Loc} {objs:aH κ Ty},SRel C Mut Lent w0 ρ env objs tm w→xQ C m l objs K=some r→
    ∃objs' ρ',K objs'=some r∧SRel C Mut Lent w0 ρ' env objs' tm w∧∀v u,VRel C w Mut ρ objs v u→VRel C w Mut ρ' objs' v u
  | [],ρ,objs,S,h=>⟨objs,ρ,h,S,fun v u h=>h⟩
  | n::l,ρ,objs,S,h=>by
    obtain ⟨objs1,ρ1,h1,S1,v1⟩:=V4 HC S h
    obtain ⟨objs2,ρ2,h2,S2,v2⟩:=FT HC l S1 h1
    exact ⟨objs2,ρ2,h2,S2,fun v u h=>v2 v u (v1 v u h)⟩
theorem fJ_ (HC:bH C) (S:SRel C Mut Lent w0 ρ env objs tm w) {id:Nat} {t t':κ} {xs:List (Ty t)} {ys:List (Ty t')} {g:Nat} {u:Value} (e:objs[id]? =some (.rw t xs g none)) (hd:C.dn t xs=some ⟨t',ys⟩) (hr:VRel C w Mut ρ objs (.rwv id) u):
    VRel C w Mut ρ (objs.set id .dead) (.inl true t' ys) u:=by
  obtain ⟨h1,h2,h3⟩:=HC.dn _ _ _ _ hd
  have ho:=S.ob id
  simp only [ORel,e] at ho
  have hF:∀b,xI (ρ id) b→aG ρ objs id b:=fun b hb=>by simp only [aG,e];exact hb
  have hX:∀b0 b,xI (ρ id) b→¬Xs Mut ρ (objs.set id .dead) b0 b:=fun b0 b hb hx=>by
    rcases hx with ⟨i,hi⟩ | ⟨_,hm⟩
    ·obtain ⟨g1,g2⟩:=lH hi
     exact g1 (S.inj _ _ _ g2 (hF b hb))
    ·exact (S.live _ ⟨id,hF b hb⟩).1 hm
  cases hr with
  | rwv k1 hA=>
    rw [cO e] at k1;cases k1
    rw [←h2]
    have old:∀i y,ys[i]? =some y→∃x,xs[i]? =some x:=fun i y hy=>by
      have:=(List.getElem?_eq_some_iff.mp hy).1
      exact ⟨_,List.getElem?_eq_getElem (by omega)⟩
    have hcell:∀i y j cl,ys[i]? =some y→(C.enc t' y)[j]? =some cl→∃v,w.cell? (at' (ρ id).block ((ρ id).off+i*C.sz t'+j))=some v∧VRel C w Mut ρ (objs.set id .dead) cl v:=fun i y j cl hy hj=>by
      obtain ⟨x,hx⟩:=old i y hy
      obtain ⟨c0,hc0,hh⟩:=h3 i x y hx hy j cl hj
      obtain ⟨v,a1,a2⟩:=ho.cell i x j c0 hx hc0
      have a2:EntR C w Mut ρ objs ((ρ id).sub (i*C.sz t+j)) [c0] v:=a2
      refine ⟨v,by rw [h1];exact a1, ?_⟩
      rcases hh with ⟨z,rfl,rfl⟩ | ⟨b0,s',zs,rfl,rfl⟩
      ·obtain ⟨e1,e2,_⟩:=P3 a2
       rw [e1];exact .lit e2
      ·obtain ⟨A,rfl,q1,q2,q3,q4,q5⟩:=CW a2
       refine .inl (blk:=((ρ id).sub (i*C.sz t+j)).1) (off:=((ρ id).sub (i*C.sz t+j)).2.1) (vals:=fun p q=>(w.cell? (at' ((ρ id).sub (i*C.sz t+j)).1 (((ρ id).sub (i*C.sz t+j)).2.1+p*C.sz s'+q))).getD Go.undef)
         (fun _=>HC.xin t x b0 s' zs ho.xcl (lX HC hc0)) q2 (fun hne=> ?_) (fun p z q cl' hz hq=> ?_) (fun p z q cl' hz hq=> ?_)
       ·have hc:((ρ id).sub (i*C.sz t+j)).2.2≠0:=by have:=List.length_pos_iff.mpr hne;omega
        exact ⟨q1 hc,q3 hc,hX _ _ (.inr ⟨_,hc,rfl⟩)⟩
       ·obtain ⟨v,b1,b2⟩:=q4 p z q cl' hz hq
        rw [b1];rfl
       ·obtain ⟨v,b1,b2⟩:=q4 p z q cl' hz hq
        rw [b1];exact b2.kill id
    refine .inl (blk:=(ρ id).block) (off:=(ρ id).off) (vals:=fun i j=>(w.cell? (at' (ρ id).block ((ρ id).off+i*C.sz t'+j))).getD Go.undef) (fun h=>by cases h) (by have:=ho.len;omega) (fun hne=> ?_) (fun i y j cl hy hj=> ?_) (fun i y j cl hy hj=> ?_)
    ·have hc:(ρ id).cap≠0:=by have:=List.length_pos_iff.mpr hne;have:=ho.len;omega
     exact ⟨hA hc,ho.blk hc,hX _ _ (.inl ⟨hc,rfl⟩)⟩
    ·obtain ⟨v,a1,a2⟩:=hcell i y j cl hy hj
     rw [a1];rfl
    ·obtain ⟨v,a1,a2⟩:=hcell i y j cl hy hj
     rw [a1];exact a2
  | rwvd hcl hin k1=>rw [jM (cO e)] at k1;cases k1
theorem A9 (HC:bH C):∀(cs:List (AV κ Ty)) (us:List Value) {objs:aH κ Ty},SRel C Mut Lent w0 ρ env objs tm w→us.length=cs.length→
    (∀(j:Nat) (x:AV κ Ty) (u:Value),cs[j]? =some x→us[j]? =some u→VRel C w Mut ρ objs x u)→
    SRel C Mut Lent w0 ρ env (mV C objs cs).2 tm w∧(mV C objs cs).1.length=cs.length∧(∀v u,VRel C w Mut ρ objs v u→VRel C w Mut ρ (mV C objs cs).2 v u)∧
      (∀(j:Nat) (x:AV κ Ty) (u:Value),(mV C objs cs).1[j]? =some x→us[j]? =some u→VRel C w Mut ρ (mV C objs cs).2 x u)
  | [],us,objs,S,hl,hx=>⟨S,rfl,fun v u h=>h,fun j x u h=>by simp [mV] at h⟩
  | c::cs,us,objs,S,hl,hx=>by
    obtain ⟨u,us,rfl⟩:∃u us',us=u::us':=by cases us with | nil=>simp at hl | cons u us=>exact ⟨u,us,rfl⟩
    have go:∀(objs1:aH κ Ty) (c1:AV κ Ty),SRel C Mut Lent w0 ρ env objs1 tm w→(∀v u,VRel C w Mut ρ objs v u→VRel C w Mut ρ objs1 v u)→VRel C w Mut ρ objs1 c1 u→
     SRel C Mut Lent w0 ρ env (match mV C objs1 cs with | (vs,o)=>(c1::vs,o)).2 tm w∧(match mV C objs1 cs with | (vs,o)=>(c1::vs,o)).1.length=(c::cs).length∧(∀v u,VRel C w Mut ρ objs v u→VRel C w Mut ρ (match mV C objs1 cs with | (vs,o)=>(c1::vs,o)).2 v u)∧
     (∀(j:Nat) (x':AV κ Ty) (u':Value),(match mV C objs1 cs with | (vs,o)=>(c1::vs,o)).1[j]? =some x'→(u::us)[j]? =some u'→VRel C w Mut ρ (match mV C objs1 cs with | (vs,o)=>(c1::vs,o)).2 x' u'):=by
      intro objs1 c1 S1 v1 hc1
      obtain ⟨S',l',v',a'⟩:=A9 HC cs us S1 (by simpa using hl) (fun j y v a b=>v1 _ _ (hx (j+1) y v (by simpa using a) (by simpa using b)))
      refine ⟨S',by simp [l'],fun v u h=>v' _ _ (v1 _ _ h),fun j x' u' hj hu=> ?_⟩
      cases j with
      | zero=>simp at hj hu;subst hj;subst hu;exact v' _ _ hc1
      | succ j=>exact a' j x' u' (by simpa using hj) (by simpa using hu)
    have hc:=hx 0 c u rfl rfl
    have same:=go objs c S (fun v u h=>h) hc
    simp only [mV]
    split
    ·rename_i id
     split
     ·rename_i t xs hsl
      exact go _ _ (S.kill id) (fun v u h=>h.kill id) (bd_ HC S (cB hsl) (fun h=>by cases h) hc)
     ·exact same
    ·rename_i id
     split
     ·rename_i t xs g e
      split
      ·rename_i t' ys hd
       exact go _ _ (S.kill id) (fun v u h=>h.kill id) (fJ_ HC S e hd hc)
      ·exact same
     ·exact same
    ·exact same
theorem WY (HC:bH C) (S:SRel C Mut Lent w0 ρ env objs tm w) {x:AV κ Ty} {u:Value} (hx:VRel C w Mut ρ objs x u):
    SRel C Mut Lent w0 ρ env (LR C objs x).2 tm w∧(∀v u,VRel C w Mut ρ objs v u→VRel C w Mut ρ (LR C objs x).2 v u)∧VRel C w Mut ρ (LR C objs x).2 (LR C objs x).1 u:=by
  by_cases hv:∃cs,x= .agg cs
  ·obtain ⟨cs,rfl⟩:=hv
   cases hx with
   | agg hl hcell hrel=>
     obtain ⟨S',l',v',a'⟩:=A9 HC cs _ S hl hrel
     exact ⟨S',v', .agg (by rw [l'];exact hl) hcell a'⟩
  ·have e:LR C objs x=(match mV C objs [x] with | ([v],o)=>(v,o) | _=>(x,objs)):=by cases x<;>first | rfl | exact absurd ⟨_,rfl⟩ hv
   obtain ⟨S',l',v',a'⟩:=A9 HC [x] [u] S rfl (fun j y q a b=>by
     cases j with
     | zero=>simp at a b;subst a;subst b;exact hx
     | succ j=>simp at a)
   rw [e]
   generalize mV C objs [x]=p at S' l' v' a'
   obtain ⟨vs,o⟩:=p
   match vs,l' with
   | [v],_=>exact ⟨S',v',a' 0 v u rfl rfl⟩
theorem vB (HC:bH C):∀(xs:List (AV κ Ty)) (ms:List G7) (us:List Value) {ρ:Nat→Loc} {objs:aH κ Ty},SRel C Mut Lent w0 ρ env objs tm w→us.length=xs.length→
    (∀(j:Nat) (x:AV κ Ty) (u:Value),xs[j]? =some x→us[j]? =some u→VRel C w Mut ρ objs x u)→
    ∃ρ',SRel C Mut Lent w0 ρ' env (pU C objs xs ms).2 tm w∧(pU C objs xs ms).1.length=xs.length∧(∀v u,VRel C w Mut ρ objs v u→VRel C w Mut ρ' (pU C objs xs ms).2 v u)∧
     (∀(j:Nat) (x:AV κ Ty) (u:Value),(pU C objs xs ms).1[j]? =some x→us[j]? =some u→VRel C w Mut ρ' (pU C objs xs ms).2 x u)
  | [],ms,us,ρ,objs,S,hl,hx=>by
    cases ms<;>exact ⟨ρ,S,rfl,fun v u h=>h,fun j x u h=>by simp [pU] at h⟩
  | x::xs,[],us,ρ,objs,S,hl,hx=>⟨ρ,S,rfl,fun v u h=>h,hx⟩
  | x::xs,m::ms,us,ρ,objs,S,hl,hx=>by
    obtain ⟨u,us,rfl⟩:∃u us',us=u::us':=by cases us with | nil=>simp at hl | cons u us=>exact ⟨u,us,rfl⟩
    have same:∃ρ',SRel C Mut Lent w0 ρ' env (match pU C objs xs ms with | (vs,o)=>(x::vs,o)).2 tm w∧(match pU C objs xs ms with | (vs,o)=>(x::vs,o)).1.length=(x::xs).length∧(∀v u,VRel C w Mut ρ objs v u→VRel C w Mut ρ' (match pU C objs xs ms with | (vs,o)=>(x::vs,o)).2 v u)∧
     (∀(j:Nat) (x':AV κ Ty) (u':Value),(match pU C objs xs ms with | (vs,o)=>(x::vs,o)).1[j]? =some x'→(u::us)[j]? =some u'→VRel C w Mut ρ' (match pU C objs xs ms with | (vs,o)=>(x::vs,o)).2 x' u'):=by
      obtain ⟨ρ',S',l',v',a'⟩:=vB HC xs ms us S (by simpa using hl) (fun j y v a b=>hx (j+1) y v (by simpa using a) (by simpa using b))
      refine ⟨ρ',S',by simp [l'],v',fun j x' u' hj hu=> ?_⟩
      cases j with
      | zero=>simp at hj hu;subst hj;subst hu;exact v' _ _ (hx 0 x u rfl rfl)
      | succ j=>exact a' j x' u' (by simpa using hj) (by simpa using hu)
    simp only [pU]
    split
    ·rename_i id g i j t ys
     split
     ·rename_i s rows g' e
      split
      ·rename_i hg
       have hg:=Nat.eq_of_beq_eq_true hg
       subst hg
       obtain ⟨ρ1,S1,v1,o1⟩:=S.takeX1 HC e (hx 0 _ u rfl rfl)
       obtain ⟨ρ',S',l',v',a'⟩:=vB HC xs ms us S1 (by simpa using hl) (fun j y v a b=>v1 _ _ (hx (j+1) y v (by simpa using a) (by simpa using b)))
       refine ⟨ρ',S',by simp [l'],fun v u h=>v' v u (v1 v u h),fun j x' u' hj hu=> ?_⟩
       cases j with
       | zero=>simp at hj hu;subst hj;subst hu;exact v' _ _ o1
       | succ j=>exact a' j x' u' (by simpa using hj) (by simpa using hu)
      ·exact same
     ·exact same
    ·obtain ⟨S1,v1,o1⟩:=WY HC S (hx 0 x u rfl rfl)
     obtain ⟨ρ',S',l',v',a'⟩:=vB HC xs ms us S1 (by simpa using hl) (fun j y v a b=>v1 _ _ (hx (j+1) y v (by simpa using a) (by simpa using b)))
     refine ⟨ρ',S',by simp [l'],fun v u h=>v' v u (v1 v u h),fun j x' u' hj hu=> ?_⟩
     cases j with
     | zero=>simp at hj hu;subst hj;subst hu;exact v' _ _ o1
     | succ j=>exact a' j x' u' (by simpa using hj) (by simpa using hu)
    ·exact same
end
end Km
