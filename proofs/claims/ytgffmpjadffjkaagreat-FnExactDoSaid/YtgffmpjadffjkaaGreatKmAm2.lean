/- A part of the proof of FnExactDo: an abstract machine over the program, sound by its theorems. There is no condition. -/
import Derived.Test.YtgffmpjadffjkaaGreatKmAm1
import Derived.Laws.BytesString
import Derived.Laws.StructEq
import Derived.Laws.IdiomStrings
import Derived.WideKeyRuns
import Derived.MapKept
namespace Km
open Go
set_option linter.unusedVariables false
set_option linter.unusedSimpArgs false
variable {κ:Type} {Ty:κ→Type} {R:Type}
section
variable {P:Program} {C:Cod κ Ty} {T:TypeId→Option (TI κ Ty)}
variable {Mut:Nat→Prop} {Lent:Org κ Ty} {w0 w w':World} {ρ ρ':Nat→Loc} {env:Env κ Ty} {objs objs' objs1:am_ κ Ty} {tm:Array Value}
theorem b7_ (hw:Weaker objs objs1) (o:AObj κ Ty) (l:Loc) (i:Nat):Compat ρ objs (upd ρ objs1.length l) (objs1++[o]) i:=by
  unfold Compat
  split
  ·rename_i cs e
   have hi:=(List.getElem?_eq_some_iff.mp e).1
   have hi1:i<objs1.length:=by rw [hw.1];exact hi
   rcases hw.2 i with e' | e'
   ·exact .inl ⟨cs,by rw [bT_ hi1,e',e],bC_ ρ _ l (by omega)⟩
   ·exact .inr (aD_ (by rw [bT_ hi1,e']))
  ·rename_i t xs e
   have hi:=(List.getElem?_eq_some_iff.mp e).1
   have hi1:i<objs1.length:=by rw [hw.1];exact hi
   rcases hw.2 i with e' | e'
   ·exact .inl ⟨xs,by rw [bT_ hi1,e',e],rfl,bC_ ρ _ l (by omega)⟩
   ·exact .inr (aD_ (by rw [bT_ hi1,e']))
  ·rename_i k v es ho e
   have hi:=(List.getElem?_eq_some_iff.mp e).1
   have hi1:i<objs1.length:=by rw [hw.1];exact hi
   rcases hw.2 i with e' | e'
   ·exact .inl ⟨es,ho,by rw [bT_ hi1,e',e],by rw [bC_ ρ _ l (by omega)]⟩
   ·exact .inr (aD_ (by rw [bT_ hi1,e']))
  ·rename_i t xs g ho e
   have hi:=(List.getElem?_eq_some_iff.mp e).1
   have hi1:i<objs1.length:=by rw [hw.1];exact hi
   have hu:upd ρ objs1.length l i=ρ i:=bC_ ρ _ l (by omega)
   rcases hw.2 i with e' | e'
   ·exact .inl ⟨xs,g,ho,by rw [bT_ hi1,e',e],rfl,by rw [hu];exact .refl _,Nat.le_refl _,fun _ h=>⟨h,rfl,hu⟩⟩
   ·exact .inr (aD_ (by rw [bT_ hi1,e']))
  ·rename_i t xs n e
   have hi:=(List.getElem?_eq_some_iff.mp e).1
   have hi1:i<objs1.length:=by rw [hw.1];exact hi
   have hu:upd ρ objs1.length l i=ρ i:=bC_ ρ _ l (by omega)
   rcases hw.2 i with e' | e'
   ·exact .inl ⟨xs,c0_ (by rw [bT_ hi1,e',e]),rfl,by rw [hu];exact .refl _⟩
   ·exact .inr (aD_ (by rw [bT_ hi1,e']))
  ·rename_i e
   have hi:=(List.getElem?_eq_some_iff.mp e).1
   have hi1:i<objs1.length:=by rw [hw.1];exact hi
   rcases hw.2 i with e' | e'
   ·exact (aD_ (by rw [bT_ hi1,e',e]))
   ·exact (aD_ (by rw [bT_ hi1,e']))
  ·trivial
theorem SRel.flt (S:SRel C Mut Lent w0 ρ env objs tm w) {i b:Nat} (h:ah_ ρ objs i b):b<w.heap.size:=by
  exact foot_lt (S.ob i) h
theorem SRel.take (S:SRel C Mut Lent w0 ρ env objs tm w) (hw:Weaker objs objs1) {o:AObj κ Ty} {l:Loc}
    (hb:∀b,b<w.heap.size→b≠l.block∨¬aN_ ρ objs b→w'.heap[b]? =w.heap[b]?) (hsz:w.heap.size≤w'.heap.size)
    (hl:(w.heap.size≤l.block∨(aN_ ρ objs l.block∧∀i,¬ah_ ρ objs1 i l.block))∨∀b,¬ah_ (upd ρ objs1.length l) (objs1++[o]) objs1.length b)
    (hkeep:∀b,aN_ ρ objs1 b→w'.heap[b]? =w.heap[b]?)
    (hnew:∀(_:WStep w w' (aN_ ρ objs) (aN_ (upd ρ objs1.length l) (objs1++[o]))),ORel C w' Mut (upd ρ objs1.length l) (objs1++[o]) objs1.length)
    (hos:w'.os=w.os) (htape:w'.tape=w.tape) (hout:w'.output=w.output) (hs:∀q,(l.sub q).2.2=0:=by intro;rfl):
    SRel C Mut Lent w0 (upd ρ objs1.length l) env (objs1++[o]) tm w':=by
  have hlen:=hw.1
  have fp:∀i b,ah_ (upd ρ objs1.length l) (objs1++[o]) i b→(i<objs1.length∧ah_ ρ objs1 i b)∨(i=objs1.length∧b=l.block∧ah_ (upd ρ objs1.length l) (objs1++[o]) objs1.length b):=fun i b h=>by
    rcases gv_ hs h with h1 | ⟨h1,h2⟩
    ·exact .inl h1
    ·exact .inr ⟨h1,h2,h1▸h⟩
  have W:WStep w w' (aN_ ρ objs) (aN_ (upd ρ objs1.length l) (objs1++[o])):=⟨fun b hlt hn=>hb b hlt (.inr hn),hsz,fun b ⟨i,hi⟩=>by
    rcases fp i b hi with ⟨_,h⟩ | ⟨_,h,hh⟩
    ·exact .inl ⟨i,hw.foot h⟩
    ·subst h
     rcases hl with (h1 | ⟨h1,_⟩) | h1
     ·exact .inr h1
     ·exact .inl h1
     ·exact absurd hh (h1 _)⟩
  refine S.step W (by simp;omega) (b7_ hw o l) (fun i=> ?_) (fun i j b hi hj=> ?_) hos htape hout
  ·by_cases hi:i<objs1.length
   ·rcases hw.2 i with e | e
    ·refine ORel.step W (by simp;omega) (b7_ hw o l) (S.ob i) (by rw [bT_ hi,e]) (bC_ ρ _ l (by omega)) (fun b hb'=>hkeep b ⟨i, ?_⟩)
     unfold ah_ at hb'⊢;rw [e];exact hb'
    ·unfold ORel;rw [bT_ hi,e];trivial
   ·by_cases hn:i=objs1.length
    ·subst hn;exact hnew W
    ·unfold ORel
     have:(objs1++[o])[i]? =none:=List.getElem?_eq_none (by simp;omega)
     rw [this];trivial
  ·rcases fp i b hi with ⟨h1,h2⟩ | ⟨h1,h2,h3⟩<;>rcases fp j b hj with ⟨g1,g2⟩ | ⟨g1,g2,g3⟩
   ·exact S.inj i j b (hw.foot h2) (hw.foot g2)
   ·subst g2
    rcases hl with (hh | ⟨_,hh⟩) | hh
    ·have:=S.flt (hw.foot h2);omega
    ·exact absurd h2 (hh i)
    ·exact absurd g3 (hh _)
   ·subst h2
    rcases hl with (hh | ⟨_,hh⟩) | hh
    ·have:=S.flt (hw.foot g2);omega
    ·exact absurd g2 (hh j)
    ·exact absurd h3 (hh _)
   ·omega
theorem tV_ (need:Nat):∀(r c:Nat),c<need→256≤c→Builtin.growBy need r c≤2*need
  | 0,c,h,_=>by simp only [Builtin.growBy];omega
  | r+1,c,h,h2=>by
    simp only [Builtin.growBy]
    rw [if_neg (by omega)]
    by_cases h3:c+(c+768)/4<need
    ·exact tV_ need r _ h3 (by omega)
    ·cases r with
     | zero=>simp only [Builtin.growBy];omega
     | succ r=>simp only [Builtin.growBy];rw [if_pos (by omega)];omega
theorem x5_ {need old:Nat} (h:old<need):Builtin.nextslicecap need old≤2*need:=by
  unfold Builtin.nextslicecap
  split
  ·omega
  ·split
   ·omega
   ·exact tV_ need 4 old h (by omega)
theorem fP_ (HC:aO_ C) {t:κ} {xs:List (Ty t)} {A:Option Addr} {c blk off:Nat} (hA:xs≠[]→A=some (at' blk off)∧blk<w.heap.size)
    (hrow:∀i y j cl,xs[i]? =some y→(C.enc t y)[j]? =some cl→∃v,w.cell? (at' blk (off+i*C.sz t+j))=some v∧VRel C w Mut ρ objs cl v):
    ∃vs:List Value,vs.length=xs.length*C.sz t∧(∀w2:World,(∀a,w2.cell? a=w.cell? a)→(Builtin.firstCells (C.sz t) xs.length (.slice A xs.length c)).run P w2= .ok vs.toArray w2)∧(∀(q:Nat) (v:Value),vs[q]? =some v→aL_ v=true)∧
     ∀i y j cl,xs[i]? =some y→(C.enc t y)[j]? =some cl→∃v,vs[i*C.sz t+j]? =some v∧VRel C w Mut ρ objs cl v:=by
  by_cases hx:xs=[]
  ·subst hx
   refine ⟨[],by simp,fun w2 _=> ?_,fun q v h=>by simp at h,fun i y j cl h=>by simp at h⟩
   cases A with
   | none=>rfl
   | some a=>simp [Builtin.firstCells,loadCells,loadCellsFrom]
  ·obtain ⟨rfl,hblk⟩:=hA hx
   by_cases hs:C.sz t=0
   ·refine ⟨[],by simp [hs],fun w2 _=>by simp [Builtin.firstCells,hs,loadCells,loadCellsFrom],fun q v h=>by simp at h,fun i y j cl h1 h2=> ?_⟩
    have:=(List.getElem?_eq_some_iff.mp h2).1
    rw [HC.len,hs] at this;omega
   ·have hcell:∀q,q<xs.length*C.sz t→∃v,w.cell? (at' blk (off+q))=some v∧aL_ v=true:=fun q hq=>by
      have h1:q/C.sz t<xs.length:=(Nat.div_lt_iff_lt_mul (by omega)).mpr hq
      have h2:q%C.sz t<C.sz t:=Nat.mod_lt _ (by omega)
      have h3:(C.enc t xs[q/C.sz t])[q%C.sz t]? =some ((C.enc t xs[q/C.sz t])[q%C.sz t]'(by rw [HC.len];exact h2)):=List.getElem?_eq_getElem _
      obtain ⟨v,a1,a2⟩:=hrow (q/C.sz t) _ (q%C.sz t) _ (List.getElem?_eq_getElem h1) h3
      refine ⟨v, ?_,h3_ HC (ex_ HC h3) a2⟩
      rw [←a1,Nat.add_assoc,Nat.div_add_mod']
    let f:Nat→Value:=fun q=>(w.cell? (at' blk (off+q))).getD Go.undef
    have hf:∀q,q<xs.length*C.sz t→w.cell? (at' blk (off+q))=some (f q):=fun q hq=>by
      obtain ⟨v,a1,_⟩:=hcell q hq;simp [f,a1]
    refine ⟨(List.range (xs.length*C.sz t)).map f,by simp,fun w2 h2=> ?_,fun q v hq=> ?_,fun i y j cl h1 h2=> ?_⟩
    ·simp only [Builtin.firstCells]
     exact run_loadCells w2 (at' blk off) _ f (fun q hq=>by rw [fS_,h2];exact hf q hq)
    ·simp only [List.getElem?_map,Option.map_eq_some_iff] at hq
     obtain ⟨q',e1,rfl⟩:=hq
     have hlt:q'<xs.length*C.sz t:=by have:=List.mem_of_getElem? e1;simpa using this
     obtain ⟨v,a1,a2⟩:=hcell q' hlt
     simp [f,a1,a2]
    ·have hi:=(List.getElem?_eq_some_iff.mp h1).1
     have hj:j<C.sz t:=by have:=(List.getElem?_eq_some_iff.mp h2).1;rwa [HC.len] at this
     obtain ⟨v,a1,a2⟩:=hrow i y j cl h1 h2
     refine ⟨v, ?_,a2⟩
     rw [List.getElem?_map,List.getElem?_range (fU_ hi hj)]
     simp only [Option.map_some,f]
     rw [←Nat.add_assoc,a1];rfl
theorem tq_ {zero:Array Value} {n q:Nat} (h:q<n*zero.size):∃v∈zero.toList,(Builtin.zeroCells zero n)[q]? =some v:=by
  have hz:0<zero.size:=by
    rcases Nat.eq_zero_or_pos zero.size with e | e
    ·rw [e] at h;omega
    ·exact e
  have hm:q%zero.size<zero.size:=Nat.mod_lt _ hz
  refine ⟨zero[q%zero.size],by simp, ?_⟩
  unfold Builtin.zeroCells
  rw [Array.getElem?_map,Array.getElem?_range,if_pos h]
  simp [hm]
theorem xN_ (HC:aO_ C) {t1 t2 e ty:TypeId} {t:κ} {ie:TypeInfo} {te:TypeId} {z:Value} (hu:P.underlying t1=some (.slice e)) (hu2:P.underlying t2=some (.slice te)) (hi:P.info? e=some ie) (hs:ie.size=C.sz t) (hby:ie.bytes=C.by' t)
    (hz:ie.zero=some z) (hzs:z.cells.size=C.sz t)
    {xs ys:List (Ty t)} {A A':Option Addr} {c c':Nat} {old new:List Value}
    (hold:(Builtin.firstCells (C.sz t) xs.length (.slice A xs.length c)).run P w.drew= .ok old.toArray w.drew)
    (hnew0:(Builtin.firstCells (C.sz t) ys.length (.slice A' ys.length c')).run P w= .ok new.toArray w)
    (hnew:(Builtin.firstCells (C.sz t) ys.length (.slice A' ys.length c')).run P w.drew= .ok new.toArray w.drew)
    (hb:(xs.length+ys.length)*C.by' t≤140737488355328) (hb1:0<C.by' t):
    (xs.length+ys.length≤c→(Builtin.append_ #[t1,t2] ty #[.slice A xs.length c, .slice A' ys.length c']).run P w=
        ((match A with | some a=>storeCells (a.add (xs.length*C.sz t)) new | none=>pure ()).run P w).andThen fun _ w'=> .ok (.slice A (xs.length+ys.length) c) w')∧
    (¬xs.length+ys.length≤c→∃nc,xs.length+ys.length≤nc∧(Builtin.append_ #[t1,t2] ty #[.slice A xs.length c, .slice A' ys.length c']).run P w=
       .ok (.slice (some (at' w.heap.size 0)) (xs.length+ys.length) nc) (w.drew.alloc (.cells (old.toArray++new.toArray++Builtin.zeroCells z.cells (nc-(xs.length+ys.length))) e))):=by
  have hneed:((xs.length+ys.length:Nat):Int)≤140737488355328:=by
    have:xs.length+ys.length≤(xs.length+ys.length)*C.by' t:=Nat.le_mul_of_pos_right _ hb1
    omega
  refine ⟨fun hle=> ?_,fun hgt=> ?_⟩
  ·simp only [Builtin.append_,List.getElem?_toArray,List.getElem?_cons_zero,List.getElem?_cons_succ,Sem.run_bind,run_underlying hu,run_underlying hu2,Result.andThen_ok,hj_ hi,hs,Sem.run_pure,Builtin.lenOf]
   simp only [Bool.false_eq_true,if_false,Builtin.lenOf,Sem.run_pure,Result.andThen_ok,hle,if_true,Bool.not_false,Sem.run_bind,hnew0]
   cases A with
   | none=>simp
   | some a=>simp
  ·refine ⟨(Question.appendCap (xs.length+ys.length) c e).cut (w.tape w.drawn (Question.appendCap (xs.length+ys.length) c e)), ?_, ?_⟩
   ·simp only [Question.cut];omega
   ·have hcap:=x5_ (need:=xs.length+ys.length) (old:=c) (by omega)
    have h1:¬(((xs.length+ys.length:Nat):Int)>IntKind.i64.max∧(ie.bytes=0)):=by rw [hby];omega
    have h2:¬(Builtin.nextslicecap (xs.length+ys.length) c*ie.bytes>2^48):=by
      rw [hby]
      have:=Nat.mul_le_mul_right (C.by' t) hcap
      rw [Nat.mul_assoc] at this
      have h48:(2:Nat)^48=281474976710656:=by decide
      omega
    simp only [Builtin.append_,List.getElem?_toArray,List.getElem?_cons_zero,List.getElem?_cons_succ,Sem.run_bind,run_underlying hu,run_underlying hu2,Result.andThen_ok,hj_ hi,hs,Sem.run_pure,Builtin.lenOf]
    simp only [Bool.false_eq_true,if_false,Builtin.lenOf,Sem.run_pure,Result.andThen_ok,hgt,Bool.not_false,if_true,Sem.run_bind,sF_ hi,false_or,h1,h2,run_choose,Question.forced,World.drew_eq,run_askRoom,hold,hnew]
    simp [zeroValue,sF_ hi,hz,newRow,World.alloc_eq,at']
theorem vI_ (HC:aO_ C) {t:κ} {xs ys:List (Ty t)} {old new rest:List Value} (ho:old.length=xs.length*C.sz t) (hn:new.length=ys.length*C.sz t)
    (h1:∀i y j cl,xs[i]? =some y→(C.enc t y)[j]? =some cl→∃v,old[i*C.sz t+j]? =some v∧VRel C w Mut ρ objs cl v)
    (h2:∀i y j cl,ys[i]? =some y→(C.enc t y)[j]? =some cl→∃v,new[i*C.sz t+j]? =some v∧VRel C w Mut ρ objs cl v):
    ∀i y j cl,(xs++ys)[i]? =some y→(C.enc t y)[j]? =some cl→∃v,(old++new++rest)[i*C.sz t+j]? =some v∧VRel C w Mut ρ objs cl v:=by
  intro i y j cl hi hj
  have hjs:j<C.sz t:=by have:=(List.getElem?_eq_some_iff.mp hj).1;rwa [HC.len] at this
  by_cases hx:i<xs.length
  ·rw [List.getElem?_append_left hx] at hi
   obtain ⟨v,a1,a2⟩:=h1 i y j cl hi hj
   have:=fU_ hx hjs
   exact ⟨v,by rw [List.append_assoc,List.getElem?_append_left (by omega)];exact a1,a2⟩
  ·rw [List.getElem?_append_right (by omega)] at hi
   obtain ⟨v,a1,a2⟩:=h2 (i-xs.length) y j cl hi hj
   have hlt:=(List.getElem?_eq_some_iff.mp a1).1
   refine ⟨v, ?_,a2⟩
   have e:i*C.sz t+j-old.length=(i-xs.length)*C.sz t+j:=by
     rw [ho,Nat.sub_mul]
     have:=Nat.mul_le_mul_right (C.sz t) (show xs.length≤i by omega)
     omega
   have hge:old.length≤i*C.sz t+j:=by
     rw [ho]
     have:=Nat.mul_le_mul_right (C.sz t) (show xs.length≤i by omega)
     omega
   rw [List.append_assoc,List.getElem?_append_right hge,e,List.getElem?_append_left hlt];exact a1
structure Base (C:Cod κ Ty) (w:World) (Mut:Nat→Prop) (ρ:Nat→Loc) (objs objs1:am_ κ Ty) (t:κ) (xs:List (Ty t)) (A:Option Addr) (c blk off:Nat):Prop where
  weak:Weaker objs objs1
  le:xs.length≤c
  at_:c≠0→A=some (at' blk off)∧blk<w.heap.size∧aN_ ρ objs blk∧∀i,¬ah_ ρ objs1 i blk
  row:∀i y j cl,xs[i]? =some y→(C.enc t y)[j]? =some cl→∃v,w.cell? (at' blk (off+i*C.sz t+j))=some v∧VRel C w Mut ρ objs cl v
  room:∀q,q<c*C.sz t→∃v,w.cell? (at' blk (off+q))=some v∧aL_ v=true∧w.frozen? (at' blk (off+q))=false
structure NewSl (C:Cod κ Ty) (Mut:Nat→Prop) (t:κ) (xs:List (Ty t)) (o:AObj κ Ty) (vv:Nat→AV κ Ty):Prop where
  foot:∀(ρ:Nat→Loc) (objs:am_ κ Ty) (id b:Nat),objs[id]? =some o→(ρ id).sub=noSub→ah_ ρ objs id b→(ρ id).cap≠0
  ob:∀(w:World) (ρ:Nat→Loc) (objs:am_ κ Ty) (id:Nat),objs[id]? =some o→(ρ id).sub=noSub→SlAt C w Mut ρ objs (ρ id).block (ρ id).off (ρ id).cap t xs→ORel C w Mut ρ objs id
  val:∀(w:World) (ρ:Nat→Loc) (objs:am_ κ Ty) (id:Nat) (A:Option Addr),objs[id]? =some o→((ρ id).cap≠0→A=some (at' (ρ id).block (ρ id).off))→VRel C w Mut ρ objs (vv id) (.slice A xs.length (ρ id).cap)
theorem NewSl.sl (t:κ) (xs:List (Ty t)):NewSl C Mut t xs (.sl t xs) .own where
  foot ρ objs id b e hs h:=by unfold ah_ at h;rw [e] at h;exact h.1
  ob w ρ objs id e hs h:=by unfold ORel;rw [e];exact h
  val w ρ objs id A e h:= .own e h
theorem NewSl.rp {t:κ} (hx:C.xcl t=true) (xs:List (Ty t)):NewSl C Mut t xs (.rp t xs 0) .rwv where
  foot ρ objs id b e hs h:=by
    unfold ah_ at h;rw [e] at h
    rcases h with h | ⟨q,h,_⟩
    ·exact h.1
    ·rw [hs] at h;exact absurd rfl h
  ob w ρ objs id e hs h:=by
   unfold ORel;rw [e]
   exact ⟨hx,h.1,h.2.1,fun i x j cl hx hj=>by
     obtain ⟨v,h1,h2⟩:=h.2.2.1 i x j cl hx hj
     exact ⟨v,h1,by rw [hs],h2⟩,h.2.2.2,fun q hq=>by rw [hs] at hq;exact absurd rfl hq,fun p q hq=>by rw [hs] at hq;exact absurd rfl hq,fun q hq=>by rw [hs] at hq;exact absurd rfl hq,fun q hq=>by rw [hs] at hq;exact absurd rfl hq⟩
  val w ρ objs id A e h:= .rwv (c0_ e) h
theorem jf_ (HC:aO_ C) (S:SRel C Mut Lent w0 ρ env objs tm w) {t1 t2 e ty:TypeId} {t:κ} {ie:TypeInfo} {te:TypeId} {z:Value} (hu:P.underlying t1=some (.slice e)) (hu2:P.underlying t2=some (.slice te)) (hi:P.info? e=some ie) (hs:ie.size=C.sz t) (hby:ie.bytes=C.by' t)
    (hz:ie.zero=some z) (hzs:z.cells.size=C.sz t) (hzc:∀v∈z.cells.toList,aL_ v=true) (hb1:0<C.by' t)
    {xs ys:List (Ty t)} {A A':Option Addr} {c c' blk off blk' off':Nat} (B:Base C w Mut ρ objs objs1 t xs A c blk off)
    (hA':ys≠[]→A'=some (at' blk' off')∧blk'<w.heap.size)
    (hrow':∀i y j cl,ys[i]? =some y→(C.enc t y)[j]? =some cl→∃v,w.cell? (at' blk' (off'+i*C.sz t+j))=some v∧VRel C w Mut ρ objs cl v)
    (hb:(xs.length+ys.length)*C.by' t≤140737488355328) {o:AObj κ Ty} {vv:Nat→AV κ Ty} (N:NewSl C Mut t (xs++ys) o vv):
    ∃u w' ρ',(Builtin.append_ #[t1,t2] ty #[.slice A xs.length c, .slice A' ys.length c']).run P w= .ok u w'∧SRel C Mut Lent w0 ρ' env (objs1++[o]) tm w'∧
     VRel C w' Mut ρ' (objs1++[o]) (vv objs1.length) u:=by
  have hAx:xs≠[]→A=some (at' blk off)∧blk<w.heap.size:=fun hne=>by
    have:=List.length_pos_iff.mpr hne
    have:=B.at_ (by have:=B.le;omega)
    exact ⟨this.1,this.2.1⟩
  obtain ⟨old,o1,o2,o3,o4⟩:=fP_ (P:=P) HC (c:=c) hAx B.row
  obtain ⟨new,n1,n2,n3,n4⟩:=fP_ (P:=P) HC (c:=c') hA' hrow'
  obtain ⟨r1,r2⟩:=xN_ (P:=P) (w:=w) HC (ty:=ty) hu hu2 hi hs hby hz hzs (o2 w.drew (fun _=>rfl)) (n2 w (fun _=>rfl)) (n2 w.drew (fun _=>rfl)) hb hb1
  have hlen1:=B.weak.1
  by_cases hle:xs.length+ys.length≤c
  ·have r1:=r1 hle
   by_cases hc0:c=0
   ·subst hc0
    have hx:xs=[]:=List.length_eq_zero_iff.mp (by omega)
    have hy:ys=[]:=List.length_eq_zero_iff.mp (by omega)
    subst hx;subst hy
    have hn0:new=[]:=List.length_eq_zero_iff.mp (by simpa using n1)
    subst hn0
    refine ⟨_,w,upd ρ objs1.length ⟨0,0,0,noSub⟩, ?_, ?_,N.val _ _ _ _ A (a0_ objs1 _) ?_⟩
    ·rw [r1,ay_]
     cases A<;>simp [storeCells]
    ·refine S.take (w':=w) B.weak (o:=o) (l:=⟨0,0,0,noSub⟩) (fun b _ _=>rfl) (Nat.le_refl _) (.inr fun b hb=> ?_) (fun b _=>rfl) (fun W=> ?_) rfl rfl rfl
     ·exact N.foot _ _ _ _ (a0_ objs1 _) (by rw [ay_]) hb (by rw [ay_])
     ·refine N.ob _ _ _ _ (a0_ objs1 _) (by rw [ay_]) ?_
      rw [ay_]
      exact ⟨Nat.le_refl _,fun h=>absurd rfl h,fun i x j cl hx=>by simp at hx,fun q hq=>by simp at hq⟩
    ·rw [ay_];intro h;exact absurd rfl h
   ·obtain ⟨rfl,hblk,hfoot,hnone⟩:=B.at_ hc0
    have hst:=run_storeCells_cells (P:=P) blk (off+xs.length*C.sz t) new 0 w (fun j hj=>by
      obtain ⟨v,a1,_⟩:=B.room (xs.length*C.sz t+j) (by
        have:=Nat.mul_le_mul_right (C.sz t) hle
        rw [Nat.add_mul] at this;omega)
      rw [show (⟨blk,off+xs.length*C.sz t+0+j,none⟩:Addr)=at' blk (off+(xs.length*C.sz t+j)) by simp [at',Nat.add_assoc],a1];rfl) (fun j hj=>by
      obtain ⟨v,_,_,a3⟩:=B.room (xs.length*C.sz t+j) (by
        have:=Nat.mul_le_mul_right (C.sz t) hle
        rw [Nat.add_mul] at this;omega)
      rw [show (⟨blk,off+xs.length*C.sz t+0+j,none⟩:Addr)=at' blk (off+(xs.length*C.sz t+j)) by simp [at',Nat.add_assoc]];exact a3) (fun v hv=>by
      obtain ⟨q,hq⟩:=List.getElem?_of_mem hv
      exact mZ_ (n3 q v hq))
    simp only [Nat.add_zero] at hst
    have hcell:=fun q=>e1_ (w:=w) (b:=blk) (o:=off+xs.length*C.sz t) (vs:=new) (q:=q) (fun j hj=>by
      obtain ⟨v,a1,_⟩:=B.room (xs.length*C.sz t+j) (by
        have:=Nat.mul_le_mul_right (C.sz t) hle
        rw [Nat.add_mul] at this;omega)
      exact ⟨v,by rw [Nat.add_assoc];exact a1⟩)
    obtain ⟨s1,s2,s3⟩:=ff_ blk new (off+xs.length*C.sz t) w
    refine ⟨.slice (some (at' blk off)) (xs.length+ys.length) c,w.setCells blk (off+xs.length*C.sz t) new,upd ρ objs1.length ⟨blk,off,c,noSub⟩, ?_, ?_, ?_⟩
    rotate_left
    ·refine S.take (w':=w.setCells blk (off+xs.length*C.sz t) new) B.weak (o:=o) (l:=⟨blk,off,c,noSub⟩) (fun b _ h=>a1_ _ _ _ _ _ ?_) (by rw [bk_];exact Nat.le_refl _) (.inl (.inr ⟨hfoot,hnone⟩)) (fun b hb=>a1_ _ _ _ _ _ ?_) (fun W=> ?_) s1 s2 s3
     ·rcases h with h | h
      ·exact h
      ·rintro rfl;exact h hfoot
     ·rintro rfl;obtain ⟨i,hi⟩:=hb;exact hnone i hi
     ·refine N.ob _ _ _ _ (a0_ objs1 _) (by rw [ay_]) ?_
      rw [ay_]
      dsimp only
      refine ⟨by simpa using hle,fun _=>by rw [bk_];exact hblk, ?_,fun q hq=> ?_⟩
      ·intro i x j cl hx hj
       have hjs:j<C.sz t:=by have:=(List.getElem?_eq_some_iff.mp hj).1;rwa [HC.len] at this
       have hcm:=b7_ (ρ:=ρ) B.weak o ⟨blk,off,c,noSub⟩
       by_cases hix:i<xs.length
       ·rw [List.getElem?_append_left hix] at hx
        obtain ⟨v,a1,a2⟩:=B.row i x j cl hx hj
        have:=fU_ hix hjs
        exact ⟨v,by rw [hcell,if_neg (by omega)];exact a1,a2.step W (by simp;omega) hcm⟩
       ·rw [List.getElem?_append_right (by omega)] at hx
        obtain ⟨v,a1,a2⟩:=n4 (i-xs.length) x j cl hx hj
        have hlt:=(List.getElem?_eq_some_iff.mp a1).1
        have hm:=Nat.mul_le_mul_right (C.sz t) (show xs.length≤i by omega)
        rw [Nat.sub_mul] at a1 hlt
        refine ⟨v, ?_,a2.step W (by simp;omega) hcm⟩
        rw [hcell,if_pos (by omega),←a1];congr 1;omega
      ·obtain ⟨v,a1,a2,a3⟩:=B.room q hq
       by_cases hin:off+xs.length*C.sz t≤off+q∧off+q<off+xs.length*C.sz t+new.length
       ·have hk:new[off+q-(off+xs.length*C.sz t)]? =some (new[off+q-(off+xs.length*C.sz t)]'(by omega)):=List.getElem?_eq_getElem _
        exact ⟨_,by rw [hcell,if_pos hin];exact hk,n3 _ _ hk,by rw [World.frozen?_setCells];exact a3⟩
       ·exact ⟨v,by rw [hcell,if_neg hin];exact a1,a2,by rw [World.frozen?_setCells];exact a3⟩
    ·have:=N.val (w.setCells blk (off+xs.length*C.sz t) new) (upd ρ objs1.length ⟨blk,off,c,noSub⟩) _ _ (some (at' blk off)) (a0_ objs1 o) (fun _=>by rw [ay_])
     rw [ay_,List.length_append] at this
     exact this
    ·rw [r1];dsimp only;rw [fS_];rw [show at' blk (off+xs.length*C.sz t)=⟨blk,off+xs.length*C.sz t,none⟩ from rfl,hst];rfl
  ·obtain ⟨nc,h1,r2⟩:=r2 hle
   refine ⟨_,_,upd ρ objs1.length ⟨w.heap.size,0,nc,noSub⟩,r2, ?_, ?_⟩
   ·refine S.take (w':=w.drew.alloc _) B.weak (o:=o) (l:=⟨w.heap.size,0,nc,noSub⟩) (fun b hb _=>bh_ w.drew _ hb) (by simp) (.inl (.inl (Nat.le_refl _))) (fun b ⟨i,hi⟩=>bh_ w.drew _ (S.flt (B.weak.foot hi))) (fun W=> ?_) rfl rfl rfl
    refine N.ob _ _ _ _ (a0_ objs1 _) (by rw [ay_]) ?_
    rw [ay_]
    have hcm:=b7_ (ρ:=ρ) B.weak o ⟨w.heap.size,0,nc,noSub⟩
    have hcells:∀(q:Nat),(w.drew.alloc (.cells (old.toArray++new.toArray++Builtin.zeroCells z.cells (nc-(xs.length+ys.length))) e)).cell? (at' w.heap.size (0+q))=(old++new++(Builtin.zeroCells z.cells (nc-(xs.length+ys.length))).toList)[q]? :=fun q=>by
      rw [Nat.zero_add]
      have:=World.cell?_alloc_new w.drew (old.toArray++new.toArray++Builtin.zeroCells z.cells (nc-(xs.length+ys.length))) e q
      simp only [World.size_drew] at this
      rw [at',this,←Array.getElem?_toList]
      simp
    refine ⟨by simpa using h1,fun _=>by simp, ?_,fun q hq=> ?_⟩
    ·intro i x j cl hx hj
     obtain ⟨v,a1,a2⟩:=vI_ (rest:=(Builtin.zeroCells z.cells (nc-(xs.length+ys.length))).toList) HC o1 n1 o4 n4 i x j cl hx hj
     have e0:0+i*C.sz t+j=0+(i*C.sz t+j):=Nat.add_assoc _ _ _
     refine ⟨v, ?_,a2.step W (by simp;omega) hcm⟩
     dsimp only
     rw [e0,hcells]
     exact a1
    ·dsimp only;rw [hcells]
     by_cases q1:q<old.length+new.length
     ·have hq':(old++new)[q]? =some ((old++new)[q]'(by simpa using q1)):=List.getElem?_eq_getElem _
      refine ⟨_,by rw [List.getElem?_append_left (by simpa using q1)];exact hq', ?_,by simp only [at',Nat.zero_add];exact World.frozen?_alloc_new w.drew _ _ _⟩
      by_cases q2:q<old.length
      ·rw [List.getElem?_append_left q2] at hq';exact o3 _ _ hq'
      ·rw [List.getElem?_append_right (by omega)] at hq';exact n3 _ _ hq'
     ·obtain ⟨v,b1,b2⟩:=tq_ (zero:=z.cells) (n:=nc-(xs.length+ys.length)) (q:=q-(old.length+new.length)) (by
        dsimp only at hq
        rw [hzs,Nat.sub_mul,Nat.add_mul];omega)
      exact ⟨v,by rw [List.getElem?_append_right (by simp;omega)];simpa using b2,hzc v b1,by simp only [at',Nat.zero_add];exact World.frozen?_alloc_new w.drew _ _ _⟩
   ·have:=N.val (w.drew.alloc (.cells (old.toArray++new.toArray++Builtin.zeroCells z.cells (nc-(xs.length+ys.length))) e)) (upd ρ objs1.length ⟨w.heap.size,0,nc,noSub⟩) _ _ (some (at' w.heap.size 0)) (a0_ objs1 o) (fun _=>by rw [ay_])
    rw [ay_,List.length_append] at this
    exact this
end
end Km
namespace Km
open Go
set_option linter.unusedVariables false
set_option linter.unusedSimpArgs false
variable {κ:Type} {Ty:κ→Type} {R:Type}
section
variable {P:Program} {C:Cod κ Ty} {T:TypeId→Option (TI κ Ty)}
variable {Mut:Nat→Prop} {Lent:Org κ Ty} {w0 w w':World} {ρ ρ':Nat→Loc} {env:Env κ Ty} {objs objs' objs1:am_ κ Ty} {a:Act}
theorem tE_ {α:Type} {b:Nat} {xs ys zs:List α} (h:app b xs ys=some zs):zs=xs++ys∧(xs.length+ys.length)*b≤140737488355328:=by
  unfold app at h;split at h
  ·cases h;exact ⟨rfl,by assumption⟩
  ·cases h
theorem zt_ (HC:aO_ C) {s t:κ} {xs:List (Ty s)} {ys:List (Ty t)} (h:C.cast s t xs=some ys):∃e:s=t,e▸xs=ys:=HC.cast s t xs ys h
theorem iM_ (HC:aO_ C) {s t:κ} {xs:List (Ty s)} {K:List (Ty t)→Option R} {r:R} (h:(C.cast s t xs).bind K=some r):∃e:s=t,K (e▸xs)=some r:=by
  obtain ⟨ys,h1,h2⟩:=bind_some h
  obtain ⟨e,he⟩:=zt_ HC h1
  exact ⟨e,he▸h2⟩
theorem mg_ (HT:TOk P C T) {t:TypeId} {ti:TI κ Ty} {e:TypeId} {s:κ} (HE:∀t ti e s,T t=some ti→ti.shp= .slice e s→∃i z,P.info? e=some i∧i.zero=some z∧z.cells.size=C.sz s∧(∀v∈z.cells.toList,aL_ v=true)∧0<C.by' s) (ht:T t=some ti) (hs:ti.shp= .slice e s):
    ∃i z,P.underlying t=some (.slice e)∧P.info? e=some i∧i.size=C.sz s∧i.bytes=C.by' s∧i.zero=some z∧z.cells.size=C.sz s∧(∀v∈z.cells.toList,aL_ v=true)∧0<C.by' s:=by
  obtain ⟨h1,i,h2,h3,h4⟩:=HT.slice t ti e s ht hs
  obtain ⟨i',z,g1,g2,g3,g4,g5⟩:=HE t ti e s ht hs
  rw [h2] at g1;cases g1
  exact ⟨i,z,h1,h2,h3,h4,g2,g3,g4,g5⟩
def EOk (P:Program) (C:Cod κ Ty) (T:TypeId→Option (TI κ Ty)):Prop:=∀t ti e s,T t=some ti→ti.shp= .slice e s→∃i z,P.info? e=some i∧i.zero=some z∧z.cells.size=C.sz s∧(∀v∈z.cells.toList,aL_ v=true)∧0<C.by' s
theorem td_ (HT:TOk P C T) (HE:EOk P C T) (HC:aO_ C) (S:SRel C Mut Lent w0 ρ env objs a.tmps w) {t1 t2 e1 e2 ty:TypeId} {i1 i2:TI κ Ty} {s1 s2:κ} (h1:T t1=some i1) (h2:T t2=some i2) (hs1:i1.shp= .slice e1 s1) (hs2:i2.shp= .slice e2 s2)
    {x y:AV κ Ty} {u q:Value} (hx:VRel C w Mut ρ objs x u) (hy:VRel C w Mut ρ objs y q) {K:AV κ Ty→am_ κ Ty→Option R} {r:R} (h:iY_ C objs s1 x y K=some r):
    ∃v objs' u' w' ρ',K v objs'=some r∧(Builtin.append_ #[t1,t2] ty #[u,q]).run P w= .ok u' w'∧SRel C Mut Lent w0 ρ' env objs' a.tmps w'∧VRel C w' Mut ρ' objs' v u':=by
  obtain ⟨ie,z,b1,b2,b3,b4,b5,b6,b7,b8⟩:=mg_ HT HE h1 hs1
  obtain ⟨c1,_⟩:=HT.slice t2 i2 e2 s2 h2 hs2
  unfold iY_ at h
  split at h
  ·cases h
  ·rename_i s ys hrow
   replace h:=iM_ HC h
   obtain ⟨e,h⟩:=h
   subst e
   dsimp only at h
   obtain ⟨A',c',blk',off',rfl,hle',hA',hrow'⟩:=hu_ HC S hy hrow
   split at h
   ·rename_i t
    replace h:=bind_some h
    obtain ⟨zs,hz,h⟩:=h
    obtain ⟨rfl,hb⟩:=tE_ hz
    cases hx with
    | @nil _ A0=>
    have ap:=fun (o:AObj κ Ty) (vv:Nat→AV κ Ty) N=>jf_ (P:=P) (ty:=ty) HC S b1 c1 b2 b3 b4 b5 b6 b7 b8 (objs1:=objs) (xs:=[]) (A:=A0) (c:=0) (blk:=0) (off:=0)
      ⟨.refl _,Nat.le_refl _,fun h=>absurd rfl h,fun i y j cl h=>by simp at h,fun q hq=>by simp at hq⟩ hA' hrow' hb (c':=c') (o:=o) (vv:=vv) N
    split at h
    ·rename_i hxc
     simp only [Bool.and_eq_true] at hxc
     obtain ⟨u',w',ρ',g1,g2,g3⟩:=ap _ _ (.rp hxc.1 _)
     exact ⟨_,_,u',w',ρ',h,g1,g2,g3⟩
    ·obtain ⟨u',w',ρ',g1,g2,g3⟩:=ap _ _ (.sl _ _)
     exact ⟨_,_,u',w',ρ',h,g1,g2,g3⟩
   ·rename_i id
    split at h
    ·rename_i t xs hsl
     replace h:=iM_ HC h
     obtain ⟨e,h⟩:=h
     subst e
     dsimp only at h
     replace h:=bind_some h
     obtain ⟨zs,hz,h⟩:=h
     obtain ⟨rfl,hb⟩:=tE_ hz
     have hsl':=a7_ hsl
     have ho:=S.ob id
     simp only [ORel,hsl'] at ho
     cases hx with
     | own g hA=>
       rw [hsl'] at g;cases g
       obtain ⟨u',w',ρ',g1,g2,g3⟩:=jf_ (P:=P) (ty:=ty) HC S b1 c1 b2 b3 b4 b5 b6 b7 b8 (objs1:=objs.set id .dead) (xs:=xs) (c:=(ρ id).cap) (blk:=(ρ id).block) (off:=(ρ id).off)
         ⟨.kill objs id,ho.1,fun hc=>⟨hA hc,ho.2.1 hc,⟨id,bD_ hsl' hc⟩,fun i hi=>by
           obtain ⟨k1,k2⟩:=eN_ hi
           exact k1 (S.inj _ _ _ k2 (bD_ hsl' hc))⟩,ho.2.2.1,ho.2.2.2⟩ hA' hrow' hb (.sl _ _)
       exact ⟨_,_,u',w',ρ',h,g1,g2,by simpa using g3⟩
     | ownd hcl hin g=>rw [g] at hsl;cases hsl
    ·cases h
   ·rename_i id lo hi
    split at h
    ·rename_i t xs hsl
     replace h:=iM_ HC h
     obtain ⟨e,h⟩:=h
     subst e
     dsimp only at h
     replace h:=bind_some h
     obtain ⟨zs,hz,h⟩:=h
     obtain ⟨rfl,hb⟩:=tE_ hz
     have hsl':=a7_ hsl
     have ho:=S.ob id
     simp only [ORel,hsl'] at ho
     cases hx with
     | sub g hlo hhi hc hcap hA=>
       rename_i c _ _ A
       rw [hsl'] at g;cases g
       have hlen:=dj_ xs lo hi hhi
       obtain ⟨u',w',ρ',g1,g2,g3⟩:=jf_ (P:=P) (ty:=ty) HC S b1 c1 b2 b3 b4 b5 b6 b7 b8 (objs1:=objs.set id .dead) (xs:=dO_ xs lo hi) (A:=A) (c:=c) (blk:=(ρ id).block) (off:=(ρ id).off+lo*C.sz t)
         ⟨.kill objs id,by omega,fun hc0=>by
           have hcp:(ρ id).cap≠0:=by omega
           exact ⟨hA hc0,ho.2.1 hcp,⟨id,bD_ hsl' hcp⟩,fun i hi=>by
             obtain ⟨k1,k2⟩:=eN_ hi
             exact k1 (S.inj _ _ _ k2 (bD_ hsl' hcp))⟩,fun i y j cl k1 k2=>by
           have:=ho.2.2.1 _ _ _ _ (iV_ k1).1 k2
           rwa [Nat.add_mul,←Nat.add_assoc] at this,fun q hq=>by
           have hm:=Nat.mul_le_mul_right (C.sz t) hcap
           rw [Nat.add_mul] at hm
           have:=ho.2.2.2 (lo*C.sz t+q) (by omega)
           rwa [←Nat.add_assoc] at this⟩ hA' hrow' hb (.sl _ _)
       rw [hlen] at g1
       exact ⟨_,_,u',w',ρ',h,g1,g2,by simpa using g3⟩
     | subd hcl hin g=>rw [g] at hsl;cases hsl
    ·cases h
   ·cases h
end
end Km
namespace Km
open Go
set_option linter.unusedVariables false
set_option linter.unusedSimpArgs false
variable {κ:Type} {Ty:κ→Type} {R:Type}
section
variable {P:Program} {C:Cod κ Ty} {T:TypeId→Option (TI κ Ty)}
variable {Mut:Nat→Prop} {Lent:Org κ Ty} {w0 w w':World} {ρ ρ':Nat→Loc} {env:Env κ Ty} {objs objs' objs1:am_ κ Ty} {tm:Array Value}
theorem Parts.weaker (h:Weaker objs objs'):∀{ps:List (Nat×AV κ Ty)} {qs:List (Nat×Value)},Parts C w Mut ρ objs ps qs→Parts C w Mut ρ objs' ps qs
  | [],[],_=>trivial
  | (i,x)::ps,(j,u)::qs,⟨h1,h2,h3⟩=>⟨h1,h.rel h2,h3.weaker h⟩
theorem kX_ (HC:aO_ C) {t:κ}:∀(ps:List (Nat×AV κ Ty)) (qs:List (Nat×Value)) (us:Array Value) (objs:am_ κ Ty) (K:List (Ty t)→am_ κ Ty→Option R) (r:R) (n:Nat),
    SRel C Mut Lent w0 ρ env objs tm w→Parts C w Mut ρ objs ps qs→us.size=(n+ps.length)*C.sz t→n3_ C t objs n ps K=some r→
    ∃ys objs' us',K ys objs'=some r∧SRel C Mut Lent w0 ρ env objs' tm w∧Weaker objs objs'∧Instr.fill (fun i=>some (i*C.sz t,C.sz t)) us qs=some us'∧us'.size=us.size∧ys.length=ps.length∧
     (∀q,q<n*C.sz t→us'[q]? =us[q]?)∧
     (∀(i:Nat) (y:Ty t) (j:Nat) (cl:AV κ Ty),ys[i]? =some y→(C.enc t y)[j]? =some cl→∃v,us'[(n+i)*C.sz t+j]? =some v∧VRel C w Mut ρ objs' cl v)∧
     (∀q,n*C.sz t≤q→q<us.size→∃v,us'[q]? =some v∧aL_ v=true)
  | [],[],us,objs,K,r,n,S,_,hsz,h=>by
    refine ⟨[],objs,us,h,S, .refl _,rfl,rfl,rfl,fun q _=>rfl,fun i y j cl hx=>by simp at hx,fun q h1 h2=> ?_⟩
    simp at hsz;omega
  | (i,x)::ps,(i',u)::qs,us,objs,K,r,n,S,hp,hsz,h=>by
    obtain ⟨rfl,hx,hrest⟩:=hp
    simp only [n3_] at h
    split at h
    ·cases h
    ·rename_i hin
     have hin:=Nat.eq_of_beq_eq_true hin
     subst hin
     split at h
     ·cases h
     ·rename_i ns hns
      split at h
      ·cases h
      ·rename_i hl
       have hl:=Nat.eq_of_beq_eq_true hl
       have hc:=fl_ hns hx
       obtain ⟨ns',objs1,h,S1,hc1,hw1⟩:=fH_ HC ns _ objs _ _ S hc h
       split at h
       ·rename_i y hdec
        have henc:=HC.dec _ _ _ hdec
        have husz:u.cells.size=C.sz t:=by have:=hc.1;simp at this;omega
        simp only [List.length_cons] at hsz
        have hle:i*C.sz t+C.sz t≤us.size:=by
          rw [hsz,show i+(ps.length+1)=(i+1)+ps.length by omega,Nat.add_mul (i+1),Nat.add_mul i 1];omega
        have hf:=kV_ u.cells.toList 0 us (i*C.sz t) (by simp;omega)
        simp only [Nat.add_zero] at hf
        generalize hus1:u.cells.zipIdx.foldl (fun cs (c,j)=>cs.setIfInBounds (i*C.sz t+j) c) us=us1
        have hus1':us1.toList=ch_ us.toList (i*C.sz t) u.cells.toList:=by
          rw [←hus1,←Array.foldl_toList,Array.toList_zipIdx];exact hf
        have hsz1:us1.size=us.size:=by
          have:=congrArg List.length hus1';rw [d3_] at this;simpa using this
        have hget:∀q,us1[q]? =if i*C.sz t≤q∧q<i*C.sz t+C.sz t then u.cells[q-i*C.sz t]? else us[q]? :=fun q=>by
          rw [←Array.getElem?_toList,hus1',ct_ _ _ _ _ (by simp;omega)]
          simp [husz]
        obtain ⟨ys,objs',us',g1,g2,g3,g4,g5,g6,g7,g8,g9⟩:=kX_ HC ps qs us1 objs1 _ r (i+1) S1 (hrest.weaker hw1) (by rw [hsz1,hsz];congr 1;omega) h
        refine ⟨y::ys,objs',us',g1,g2,hw1.trans g3, ?_,by omega,by simp [g6],fun q hq=> ?_,fun k z j cl hk hj=> ?_,fun q hq1 hq2=> ?_⟩
        ·simp only [Instr.fill]
         rw [if_neg (by simp [husz];omega),hus1];exact g4
        ·rw [g7 q (by rw [Nat.add_mul];omega),hget,if_neg (by omega)]
        ·cases k with
         | zero=>
           simp only [List.getElem?_cons_zero,Option.some.injEq] at hk
           subst hk
           have hjs:j<C.sz t:=by have:=(List.getElem?_eq_some_iff.mp hj).1;rwa [HC.len] at this
           rw [henc] at hj
           have hu:u.cells.toList[j]? =some (u.cells.toList[j]'(by simp;omega)):=List.getElem?_eq_getElem _
           refine ⟨_, ?_,g3.rel (hc1.2.2 j cl _ hj hu)⟩
           rw [Nat.add_zero,g7 _ (by rw [Nat.add_mul];omega),hget,if_pos (by omega)]
           rw [show i*C.sz t+j-i*C.sz t=j by omega,←Array.getElem?_toList];exact hu
         | succ k=>
           obtain ⟨v,a1,a2⟩:=g8 k z j cl (by simpa using hk) hj
           exact ⟨v,by rw [←a1];congr 1;rw [show i+(k+1)=i+1+k by omega],a2⟩
        ·by_cases hq3:(i+1)*C.sz t≤q
         ·exact g9 q hq3 (by omega)
         ·rw [Nat.add_mul] at hq3
          have hu:u.cells.toList[q-i*C.sz t]? =some (u.cells.toList[q-i*C.sz t]'(by simp;omega)):=List.getElem?_eq_getElem _
          refine ⟨_, ?_,hc.2.1 _ _ hu⟩
          rw [g7 q (by rw [Nat.add_mul];omega),hget,if_pos (by omega),←Array.getElem?_toList];exact hu
       ·cases h
  | [],_::_,_,_,_,_,_,_,h,_,_=>h.elim
  | _::_,[],_,_,_,_,_,_,h,_,_=>h.elim
theorem op_ (HT:TOk P C T) (HE:EOk P C T) (HC:aO_ C) (S:SRel C Mut Lent w0 ρ env objs tm w) {t e:TypeId} {ti:TI κ Ty} {s:κ} (ht:T t=some ti) (hs:ti.shp= .slice e s) {n:Nat} {ps:List (Nat×AV κ Ty)} {qs:List (Nat×Value)}
    (hp:Parts C w Mut ρ objs ps qs) (hn:ps.length=n) (hlim:n*C.sz s≤16777216) {K:List (Ty s)→am_ κ Ty→Option R} {r:R} (h:n3_ C s objs 0 ps K=some r):
    ∃ys objs1 u' w' ρ',K ys objs1=some r∧(Instr.buildSlice t n qs.toArray).run P w= .ok u' w'∧SRel C Mut Lent w0 ρ' env (objs1++[.sl s ys]) tm w'∧VRel C w' Mut ρ' (objs1++[.sl s ys]) (.own objs1.length) u':=by
  obtain ⟨ie,z,b1,b2,b3,b4,b5,b6,b7,b8⟩:=mg_ HT HE ht hs
  have hzv:(zeroValue e).run P w= .ok z w:=by simp [zeroValue,sF_ b2,b5]
  let us:Array Value:=(Array.range (n*C.sz s)).map fun i=>(if n*C.sz s=0 then #[] else z.cells)[i%(if n*C.sz s=0 then #[] else z.cells).size]!
  obtain ⟨ys,objs1,us',g1,g2,g3,g4,g5,g6,g7,g8,g9⟩:=kX_ HC ps qs us objs K r 0 S hp (by simp [us,hn]) h
  have hus:us.size=n*C.sz s:=by simp [us]
  refine ⟨ys,objs1, .slice (some (at' w.heap.size 0)) n n,w.alloc (.cells us' e),upd ρ objs1.length ⟨w.heap.size,0,n,noSub⟩,g1, ?_,g2.newSl e ⟨by omega,fun i x j cl hx hj=> ?_,fun q hq=> ?_⟩, ?_⟩
  ·have h24:¬(n*C.sz s>2^24):=by rw [show (2:Nat)^24=16777216 by decide];omega
   simp only [Instr.buildSlice,Sem.run_bind,run_underlying b1,Result.andThen_ok,hj_ b2,b3]
   rw [if_neg h24]
   simp only [Sem.run_bind,Sem.run_pure,Result.andThen_ok,Sem.run_ite,hzv]
   by_cases h0:n*C.sz s=0
   ·simp only [h0,if_true,Result.andThen_ok,List.toList_toArray]
    have e1:(Array.range 0).map (fun x=>(#[]:Array Value)[x%(#[]:Array Value).size]!)=us:=by simp [us,h0]
    rw [e1,g4]
    rfl
   ·simp only [h0,if_false,Result.andThen_ok,List.toList_toArray]
    have e1:(Array.range (n*C.sz s)).map (fun x=>z.cells[x%z.cells.size]!)=us:=by simp [us,h0]
    rw [e1,g4]
    rfl
  ·obtain ⟨v,a1,a2⟩:=g8 i x j cl hx hj
   exact ⟨v,by simpa using a1,a2⟩
  ·obtain ⟨v,a1,a2⟩:=g9 q (by omega) (by omega)
   exact ⟨v,a1,a2⟩
  ·have:=VRel.own (C:=C) (w:=w.alloc (.cells us' e)) (Mut:=Mut) (ρ:=upd ρ objs1.length ⟨w.heap.size,0,n,noSub⟩) (a0_ objs1 (.sl s ys)) (A:=some (at' w.heap.size 0)) (fun _=>by rw [ay_])
   rw [ay_,g6,hn] at this
   exact this
theorem pt_ {t:κ}:∀{ps:List (Nat×AV κ Ty)} {n:Nat} {ys:List (Ty t)} {objs:am_ κ Ty} {K:List (Ty t)→am_ κ Ty→Option R},zh_ C t n ps=some ys→n3_ C t objs n ps K=K ys objs
  | [],n,ys,objs,K,h=>by cases h;rfl
  | (i,v)::ps,n,ys,objs,K,h=>by
    simp only [zh_] at h
    split at h
    ·cases h
    ·rename_i hb
     simp only [Bool.and_eq_true] at hb
     split at h
     ·rename_i u
      split at h
      ·rename_i y hy
       split at h
       ·rename_i zs hzs
        cases h
        have:=pt_ (objs:=objs) (K:=fun ys o=>K (y::ys) o) hzs
        simp only [n3_,hb.1,cellsOf,List.length_cons,List.length_nil,Nat.zero_add,hb.2,dM_,hy]
        exact this
       ·cases h
      ·cases h
     ·cases h
theorem mV_ (HT:TOk P C T) (HE:EOk P C T) (HC:aO_ C) (S:SRel C Mut Lent w0 ρ env objs tm w) {t e:TypeId} {ti:TI κ Ty} {s:κ} (ht:T t=some ti) (hs:ti.shp= .slice e s) {n:Nat} {ps:List (Nat×AV κ Ty)} {qs:List (Nat×Value)}
    (hp:Parts C w Mut ρ objs ps qs) (hn:ps.length=n) (hlim:n*C.sz s≤16777216) {ys:List (Ty s)} (h:zh_ C s 0 ps=some ys):
    ∃u' w',(Instr.buildSlice t n qs.toArray).run P w= .ok u' w'∧SRel C Mut Lent w0 ρ env objs tm w'∧VRel C w' Mut ρ objs (.inl (C.bor s) s ys) u':=by
  obtain ⟨ie,z,b1,b2,b3,b4,b5,b6,b7,b8⟩:=mg_ HT HE ht hs
  have hzv:(zeroValue e).run P w= .ok z w:=by simp [zeroValue,sF_ b2,b5]
  let us:Array Value:=(Array.range (n*C.sz s)).map fun i=>(if n*C.sz s=0 then #[] else z.cells)[i%(if n*C.sz s=0 then #[] else z.cells).size]!
  have h':=pt_ (objs:=objs) (K:=fun ys o=>some (ys,o)) h
  obtain ⟨ys1,objs1,us',g1,g2,g3,g4,g5,g6,g7,g8,g9⟩:=kX_ HC ps qs us objs _ _ 0 S hp (by simp [us,hn]) h'
  cases g1
  have hus:us.size=n*C.sz s:=by simp [us]
  have W:WStep w (w.alloc (.cells us' e)) (aN_ ρ objs) (aN_ ρ objs):=⟨fun b hb _=>bh_ w _ hb,by simp,fun b h=> .inl h⟩
  have hSR:=S.step W (Nat.le_refl _) (fun id=> .refl id) (fun id=>ORel.step W (Nat.le_refl _) (fun id=> .refl id) (S.ob id) rfl rfl (fun b hb=>bh_ w _ (S.flt hb))) (fun i j b hi hj=>S.inj i j b hi hj) rfl rfl rfl
  refine ⟨.slice (some (at' w.heap.size 0)) n n,w.alloc (.cells us' e), ?_,hSR, ?_⟩
  ·have h24:¬(n*C.sz s>2^24):=by rw [show (2:Nat)^24=16777216 by decide];omega
   simp only [Instr.buildSlice,Sem.run_bind,run_underlying b1,Result.andThen_ok,hj_ b2,b3]
   rw [if_neg h24]
   simp only [Sem.run_bind,Sem.run_pure,Result.andThen_ok,Sem.run_ite,hzv]
   by_cases h0:n*C.sz s=0
   ·simp only [h0,if_true,Result.andThen_ok,List.toList_toArray]
    have e1:(Array.range 0).map (fun x=>(#[]:Array Value)[x%(#[]:Array Value).size]!)=us:=by simp [us,h0]
    rw [e1,g4]
    rfl
   ·simp only [h0,if_false,Result.andThen_ok,List.toList_toArray]
    have e1:(Array.range (n*C.sz s)).map (fun x=>z.cells[x%z.cells.size]!)=us:=by simp [us,h0]
    rw [e1,g4]
    rfl
  ·have hcl:∀i x j cl,ys[i]? =some x→(C.enc s x)[j]? =some cl→∃v,(w.alloc (.cells us' e)).cell? (at' w.heap.size (0+i*C.sz s+j))=some v∧VRel C (w.alloc (.cells us' e)) Mut ρ objs cl v:=fun i x j cl hx hj=>by
     obtain ⟨v,a1,a2⟩:=g8 i x j cl hx hj
     refine ⟨v, ?_,a2.step W (Nat.le_refl _) (fun id=> .refl id)⟩
     simp only [Nat.zero_add] at a1⊢
     simp only [World.cell?_alloc_new];exact a1
   have hlen:ys.length=n:=by rw [g6,hn]
   rw [←hlen]
   refine .inl (blk:=w.heap.size) (off:=0) (vals:=fun i j=>((w.alloc (.cells us' e)).cell? (at' w.heap.size (0+i*C.sz s+j))).getD Go.undef) (fun hb=>hb) (Nat.le_refl _) (fun _=>⟨rfl,by simp, ?_⟩) (fun i x j cl hx hj=> ?_) (fun i x j cl hx hj=> ?_)
   ·rintro (hf | ⟨_,hm⟩)
    ·obtain ⟨i,hi⟩:=hf;have:=S.flt hi;omega
    ·have:=S.mlt _ hm;have:=S.size;omega
   ·obtain ⟨v,a1,_⟩:=hcl i x j cl hx hj
    rw [a1];rfl
   ·obtain ⟨v,a1,a2⟩:=hcl i x j cl hx hj
    rw [a1];exact a2
end
end Km
namespace Km
open Go
set_option linter.unusedVariables false
set_option linter.unusedSimpArgs false
variable {κ:Type} {Ty:κ→Type} {R:Type}
section
variable {P:Program} {C:Cod κ Ty} {T:TypeId→Option (TI κ Ty)}
variable {Mut:Nat→Prop} {Lent:Org κ Ty} {w0 w w':World} {ρ ρ':Nat→Loc} {env:Env κ Ty} {objs objs' objs1:am_ κ Ty} {tm:Array Value}
theorem xm_ {α:Type} {l:List α}:∀(n q:Nat),q<n*l.length→(List.replicate n l).flatten[q]? =l[q%l.length]?
  | 0,q,h=>by simp at h
  | n+1,q,h=>by
    rw [List.replicate_succ,List.flatten_cons]
    have hl:0<l.length:=by
      rcases Nat.eq_zero_or_pos l.length with e | e
      ·rw [e] at h;simp at h
      ·exact e
    by_cases hq:q<l.length
    ·rw [List.getElem?_append_left hq,Nat.mod_eq_of_lt hq]
    ·rw [List.getElem?_append_right (by omega),xm_ n (q-l.length) (by rw [Nat.add_mul] at h;omega),←Nat.mod_eq_sub_mod (by omega)]
theorem zy_ (HC:aO_ C) {s:κ} {z:Ty s} {n:Nat} {zc:List (AV κ Ty)} {us:Nat→Option Value} {vs:List Value} (hdec:C.enc s z=zc) (hc:Cells C w Mut ρ objs zc vs) (hu:∀q,q<n*C.sz s→us q=vs[q%C.sz s]?):
    xt_ C w Mut ρ objs s (List.replicate n z) n us:=by
  have hlen:vs.length=C.sz s:=by rw [hc.1,←hdec,HC.len]
  refine ⟨by simp,fun i x j cl hx hj=> ?_,fun q hq=> ?_⟩
  ·have hi:=(List.getElem?_eq_some_iff.mp hx).1
   simp at hi
   have hxz:x=z:=by rw [List.getElem?_replicate,if_pos hi] at hx;exact (Option.some.inj hx).symm
   subst hxz
   have hjs:j<C.sz s:=by have:=(List.getElem?_eq_some_iff.mp hj).1;rwa [HC.len] at this
   rw [hdec] at hj
   have hv:vs[j]? =some (vs[j]'(by omega)):=List.getElem?_eq_getElem _
   refine ⟨_, ?_,hc.2.2 j cl _ hj hv⟩
   rw [hu _ (fU_ hi hjs),Nat.mul_add_mod_of_lt hjs]
   exact hv
  ·have hp:0<C.sz s:=by
     rcases Nat.eq_zero_or_pos (C.sz s) with e | e
     ·rw [e] at hq;simp at hq
     ·exact e
   have hv:vs[q%C.sz s]? =some (vs[q%C.sz s]'(by rw [hlen];exact Nat.mod_lt _ hp)):=List.getElem?_eq_getElem _
   exact ⟨_,by rw [hu q hq];exact hv,hc.2.1 _ _ hv⟩
theorem y5_ {b:Nat} {n:Int} {m:Nat} (h:room b n=some m):0≤n∧n*b≤140737488355328∧m=n.toNat:=by
  unfold room at h;split at h
  ·cases h;exact ⟨by omega,by omega,rfl⟩
  ·cases h
theorem x7_ {n:Int} (h0:0≤n) (h1:n≤140737488355328):IntKind.i64.wrap n=n:=by
  have e1:(2:Int)^IntKind.i64.bits=18446744073709551616:=by decide
  have e2:(2:Int)^(IntKind.i64.bits-1)=9223372036854775808:=by decide
  have e3:n%18446744073709551616=n:=by omega
  unfold IntKind.wrap
  simp only [e1,e2,e3]
  rw [if_neg (by simp;omega)]
theorem wt_ {b0:Bool} {cs:List (AV κ Ty)} {us:List Value} (h:Cells C w Mut ρ objs cs us) (hall:cs.all (fun v=>match v with | .nil t=>b0 || !(C.bor t) | _=>true)=true):Cells C w Mut ρ objs (cs.map (ux_ b0)) us:=by
  obtain ⟨h1,h2,h3⟩:=h
  refine ⟨by simpa using h1,h2,fun j cl u hj hu=> ?_⟩
  simp only [List.getElem?_map,Option.map_eq_some_iff] at hj
  obtain ⟨c,hc,rfl⟩:=hj
  have hr:=h3 j c u hc hu
  have ha:=(List.all_eq_true.mp hall) c (List.mem_of_getElem? hc)
  by_cases hn:∃t,c= .nil t
  ·obtain ⟨t,rfl⟩:=hn
   cases hr
   exact .inl (xs:=[]) (blk:=0) (off:=0) (vals:=fun _ _=>Go.undef) (yR_ ha) (Nat.le_refl _) (fun h=>absurd rfl h) (fun i x j cl hx=>by simp at hx) (fun i x j cl hx=>by simp at hx)
  ·have:ux_ b0 c=c:=by cases c<;>first | rfl | exact absurd ⟨_,rfl⟩ hn
   rw [this];exact hr
theorem SRel.newRw (S:SRel C Mut Lent w0 ρ env objs tm w) {t:κ} {xs:List (Ty t)} {cap:Nat} {us:Array Value} (e:TypeId) (hx:C.xcl t=true) (le:xs.length≤cap)
    (row:∀i x j cl,xs[i]? =some x→(C.enc t x)[j]? =some cl→∃v,us[i*C.sz t+j]? =some v∧EntR C w Mut ρ objs (0,0,0) [cl] v)
    (room:∀q,q<cap*C.sz t→∃v,us[q]? =some v∧aL_ v=true):
    SRel C Mut Lent w0 (upd ρ objs.length ⟨w.heap.size,0,cap,noSub⟩) env (objs++[.rw t xs 0 none]) tm (w.alloc (.cells us e)):=by
  refine (S.fresh (o:= .rw t xs 0 none) (l:=⟨w.heap.size,0,cap,noSub⟩) (w':=w.alloc (.cells us e)) (fun b h=>bh_ w _ h) (by simp) (Nat.le_refl _) (fun W=> ?_) rfl rfl rfl).2
  unfold ORel
  rw [a0_,ay_]
  refine ⟨hx,le,fun _=>by simp,fun i x j cl hx hj=> ?_,fun q hq=> ?_,fun q hq=>absurd rfl hq,fun p q hq=>absurd rfl hq,fun q hq=>absurd rfl hq,fun q hq=>absurd rfl hq⟩
  ·obtain ⟨v,h1,h2⟩:=row i x j cl hx hj
   exact ⟨v,by simp only [at',Nat.zero_add,World.cell?_alloc_new];exact h1,EntR.step (L:=(0,0,0)) W (by simp) (dS_ _ _) h2 (fun b h=>absurd rfl h)⟩
  ·obtain ⟨v,h1,h2⟩:=room q hq
   exact ⟨v,by simp only [at',Nat.zero_add,World.cell?_alloc_new];exact h1,h2,by simp only [at',World.frozen?_alloc_new]⟩
theorem AR_ {b0:Bool} {cs:List (AV κ Ty)} {us:List Value} (h:Cells C w Mut ρ objs cs us) (hn:rg_ cs=true) (hd:∀c∈cs.map (ux_ b0),(∃v,c= .lit v)∨∃b s xs,c= .inl b s xs):
    ∀(j:Nat) c u,(cs.map (ux_ b0))[j]? =some c→us[j]? =some u→EntR C w Mut ρ objs (0,0,0) [c] u:=by
  intro j c u hj hu
  have hm:=hd c (List.mem_of_getElem? hj)
  simp only [List.getElem?_map,Option.map_eq_some_iff] at hj
  obtain ⟨c0,h0,rfl⟩:=hj
  have hr:=h.2.2 j c0 u h0 hu
  have hne:∀b s xs,c0≠ .inl b s xs:=uL_ hn c0 (List.mem_of_getElem? h0)
  by_cases hnil:∃t,c0= .nil t
  ·obtain ⟨t,rfl⟩:=hnil
   cases hr
   exact ⟨_,rfl,fun hn=>absurd rfl hn,Nat.le_refl _,fun hn=>absurd rfl hn,fun i x j cl hx=>by simp at hx,fun q hq=>by simp at hq⟩
  ·have e:ux_ b0 c0=c0:=by cases c0<;>first | rfl | exact absurd ⟨_,rfl⟩ hnil
   rw [e] at hm⊢
   rcases hm with ⟨v,rfl⟩ | ⟨b,s,xs,rfl⟩
   ·obtain ⟨e1,e2⟩:=aU_ hr
    exact ⟨e1,e2,rfl⟩
   ·exact absurd rfl (hne _ _ _)
theorem qs_ (HT:TOk P C T) (HE:EOk P C T) (HC:aO_ C) (S:SRel C Mut Lent w0 ρ env objs tm w) {t e:TypeId} {ti te:TI κ Ty} {s:κ} (ht:T t=some ti) (hs:ti.shp= .slice e s) (hte:T e=some te) {k k':IntKind} {n:Int} {m:Nat} {z:Ty s}
    (hr:room (C.by' s) n=some m) (hdec:C.dec s (te.zero.map (ux_ (C.bor s)))=some z) (hall:te.zero.all (fun v=>match v with | .nil t=>C.bor s || !(C.bor t) | _=>true)=true):
    (∃u' w' ρ',(Instr.makeSlice t (.int k n) (.int k' n)).run P w= .ok u' w'∧SRel C Mut Lent w0 ρ' env (objs++[.sl s (List.replicate m z)]) tm w'∧VRel C w' Mut ρ' (objs++[.sl s (List.replicate m z)]) (.own objs.length) u')∧
    (C.xcl s=true→rg_ te.zero=true→∃u' w' ρ',(Instr.makeSlice t (.int k n) (.int k' n)).run P w= .ok u' w'∧SRel C Mut Lent w0 ρ' env (objs++[.rw s (List.replicate m z) 0 none]) tm w'∧VRel C w' Mut ρ' (objs++[.rw s (List.replicate m z) 0 none]) (.rwv objs.length) u'):=by
  obtain ⟨ie,zv,b1,b2,b3,b4,b5,b6,b7,b8⟩:=mg_ HT HE ht hs
  obtain ⟨r1,r2,rfl⟩:=y5_ hr
  have hn:n≤140737488355328:=by
    have:n*1≤n*(C.by' s:Int):=Int.mul_le_mul_of_nonneg_left (by omega) r1
    omega
  have hw:=x7_ r1 hn
  obtain ⟨z',q1,q2⟩:=hF_ (C:=C) (Mut:=Mut) (ρ:=ρ) (objs:=objs) HT hte w
  have hzz:z'=zv:=by
    have:(zeroValue e).run P w= .ok zv w:=by simp [zeroValue,sF_ b2,b5]
    rw [this] at q1;cases q1;rfl
  subst hzz
  have hb48:¬((ie.bytes:Int)*n>2^48):=by
    rw [b4,Int.mul_comm,show (2:Int)^48=281474976710656 by decide];omega
  have hrun:(Instr.makeSlice t (.int k n) (.int k' n)).run P w= .ok (.slice (some (at' w.heap.size 0)) n.toNat n.toNat) (w.alloc (.cells ((Array.range (n.toNat*C.sz s)).map fun i=>z'.cells[i%z'.cells.size]!) e)):=by
    simp only [Instr.makeSlice,Sem.run_bind,run_underlying b1,Result.andThen_ok,asInt,asIntOf,Sem.run_pure,sF_ b2,hw]
    rw [if_neg (by simp;omega)]
    simp only [Sem.run_bind,run_askRoom,Result.andThen_ok,hj_ b2,b3]
    by_cases h0:n.toNat*C.sz s=0
    ·simp only [h0,if_true,Sem.run_pure,Result.andThen_ok,Sem.run_bind]
     have e0:Array.range 0= #[]:=rfl
     simp [newRow,World.alloc_eq,at',e0]
    ·simp only [h0,if_false,Sem.run_bind,q1,Sem.run_pure,Result.andThen_ok]
     simp [newRow,World.alloc_eq,at']
  have hcells:∀q,q<n.toNat*C.sz s→((Array.range (n.toNat*C.sz s)).map fun i=>z'.cells[i%z'.cells.size]!)[q]? =z'.cells.toList[q%C.sz s]? :=fun q hq=>by
    rw [Array.getElem?_map,Array.getElem?_range,if_pos hq]
    have hp:0<C.sz s:=by
      rcases Nat.eq_zero_or_pos (C.sz s) with e | e
      ·rw [e] at hq;simp at hq
      ·exact e
    have hm:=Nat.mod_lt q hp
    simp [b6,hm]
  have hR:=zy_ (n:=n.toNat) HC (HC.dec _ _ _ hdec) (wt_ q2 hall) hcells
  refine ⟨⟨_,_,upd ρ objs.length ⟨w.heap.size,0,n.toNat,noSub⟩,hrun,S.newSl e hR, ?_⟩,fun hxc hni=>⟨_,_,upd ρ objs.length ⟨w.heap.size,0,n.toNat,noSub⟩,hrun,S.newRw e hxc hR.le (fun i x j cl hx hj=> ?_) hR.room, ?_⟩⟩
  rotate_left
  ·have hi:=(List.getElem?_eq_some_iff.mp hx).1
   simp at hi
   have hxz:x=z:=by rw [List.getElem?_replicate,if_pos (by omega)] at hx;exact (Option.some.inj hx).symm
   subst hxz
   have hjs:j<C.sz s:=by have:=(List.getElem?_eq_some_iff.mp hj).1;rwa [HC.len] at this
   have henc:=HC.dec _ _ _ hdec
   have hze:=AR_ q2 hni (b0:=C.bor s) (fun c hc=>by
     rw [←henc] at hc
     exact (HC.deep _ _ _ hc).imp id fun ⟨s',xs',e,_⟩=>⟨_,s',xs',e⟩)
   have hv:z'.cells.toList[j]? =some (z'.cells.toList[j]'(by simp [b6,hjs])):=List.getElem?_eq_getElem _
   refine ⟨_, ?_,hze j cl _ (by rw [←henc];exact hj) hv⟩
   rw [hcells _ (fU_ (by omega) hjs),Nat.mul_add_mod_of_lt hjs]
   exact hv
  ·have:=VRel.rwv (C:=C) (w:=w.alloc (.cells ((Array.range (n.toNat*C.sz s)).map fun i=>z'.cells[i%z'.cells.size]!) e)) (Mut:=Mut) (ρ:=upd ρ objs.length ⟨w.heap.size,0,n.toNat,noSub⟩) (bb_ (a0_ objs (.rw s (List.replicate n.toNat z) 0 none))) (A:=some (at' w.heap.size 0)) (fun _=>by rw [ay_])
   rw [ay_,List.length_replicate] at this
   exact this
  ·have:=VRel.own (C:=C) (w:=w.alloc (.cells ((Array.range (n.toNat*C.sz s)).map fun i=>z'.cells[i%z'.cells.size]!) e)) (Mut:=Mut) (ρ:=upd ρ objs.length ⟨w.heap.size,0,n.toNat,noSub⟩) (a0_ objs (.sl s (List.replicate n.toNat z))) (A:=some (at' w.heap.size 0)) (fun _=>by rw [ay_])
   rw [ay_,List.length_replicate] at this
   exact this
theorem rQ_ (HT:TOk P C T) (S:SRel C Mut Lent w0 ρ env objs tm w) {t:TypeId} {ti:TI κ Ty} (ht:T t=some ti):
    ∃u' w' ρ',(Instr.alloc t true (.tuple #[])).run P w= .ok u' w'∧SRel C Mut Lent w0 ρ' env (objs++[.box ti.zero]) tm w'∧VRel C w' Mut ρ' (objs++[.box ti.zero]) (.ref objs.length 0) u':=by
  obtain ⟨z,q1,q2⟩:=hF_ (C:=C) (Mut:=Mut) (ρ:=ρ) (objs:=objs) HT ht w
  refine ⟨.pointer (some (at' w.heap.size 0)),w.alloc (.cells z.cells t),_, ?_,S.newBox t q2, ?_⟩
  ·simp [Instr.alloc,q1,newVar,newRow,World.alloc_eq,at']
  ·have:=VRel.ref (C:=C) (w:=w.alloc (.cells z.cells t)) (Mut:=Mut) (ρ:=upd ρ objs.length ⟨w.heap.size,0,0,noSub⟩) (off:=0) (a0_ objs (.box ti.zero))
   rw [ay_] at this
   exact this
theorem rT_ (HT:TOk P C T) (HC:aO_ C) (S:SRel C Mut Lent w0 ρ env objs tm w) {t e:TypeId} {ti te:TI κ Ty} {s:κ} {n:Nat} {z:Ty s} (ht:T t=some ti) (hs:ti.shp= .arr n e s) (hte:T e=some te) (hn:1≤n) (hdec:C.dec s te.zero=some z):
    ∃u' w' ρ',(Instr.alloc t true (.tuple #[])).run P w= .ok u' w'∧SRel C Mut Lent w0 ρ' env (objs++[.sl s (List.replicate n z)]) tm w'∧VRel C w' Mut ρ' (objs++[.sl s (List.replicate n z)]) (.eref objs.length 0 0) u':=by
  obtain ⟨zv,q1,q2⟩:=hF_ (C:=C) (Mut:=Mut) (ρ:=ρ) (objs:=objs) HT ht w
  obtain ⟨zo,p1,p2⟩:=hF_ (C:=C) (Mut:=Mut) (ρ:=ρ) (objs:=objs) HT hte w
  obtain ⟨h1,_,te',h2,h3,h4⟩:=HT.arr t ti n e s ht hs
  rw [hte] at h2;cases h2
  have hl:zv.cells.toList.length=n*C.sz s:=by rw [q2.1,h4];simp [h3]
  have hz:∀q,q<n*C.sz s→ti.zero[q]? =te.zero[q%C.sz s]? :=fun q hq=>by rw [h4,xm_ n q (by rw [h3];exact hq),h3]
  refine ⟨.pointer (some (at' w.heap.size 0)),w.alloc (.cells zv.cells t),_, ?_,S.newSl t (cap:=n) ⟨by simp,fun i x j cl hx hj=> ?_,fun q hq=> ?_⟩, ?_⟩
  ·simp [Instr.alloc,q1,newVar,newRow,World.alloc_eq,at']
  ·have hi:=(List.getElem?_eq_some_iff.mp hx).1
   simp at hi
   have hxz:x=z:=by rw [List.getElem?_replicate,if_pos hi] at hx;exact (Option.some.inj hx).symm
   subst hxz
   have hjs:j<C.sz s:=by have:=(List.getElem?_eq_some_iff.mp hj).1;rwa [HC.len] at this
   rw [HC.dec _ _ _ hdec] at hj
   have hlt:=fU_ (n:=n) hi hjs
   have hzq:=hz _ hlt
   rw [Nat.mul_add_mod_of_lt hjs,hj] at hzq
   have hv:zv.cells.toList[i*C.sz s+j]? =some (zv.cells.toList[i*C.sz s+j]'(by rw [hl];exact hlt)):=List.getElem?_eq_getElem _
   exact ⟨_,by rw [←Array.getElem?_toList];exact hv,q2.2.2 _ cl _ hzq hv⟩
  ·have hv:zv.cells.toList[q]? =some (zv.cells.toList[q]'(by rw [hl];exact hq)):=List.getElem?_eq_getElem _
   exact ⟨_,by rw [←Array.getElem?_toList];exact hv,q2.2.1 _ _ hv⟩
  ·have:=VRel.eref (C:=C) (w:=w.alloc (.cells zv.cells t)) (Mut:=Mut) (ρ:=upd ρ objs.length ⟨w.heap.size,0,n,noSub⟩) (i:=0) (off:=0) (a0_ objs (.sl s (List.replicate n z))) (by simp;omega)
   rw [ay_] at this
   simpa using this
end
end Km
namespace Km
open Go
set_option linter.unusedVariables false
set_option linter.unusedSimpArgs false
variable {κ:Type} {Ty:κ→Type} {R:Type}
section
variable {P:Program} {C:Cod κ Ty} {T:TypeId→Option (TI κ Ty)}
variable {Mut:Nat→Prop} {Lent:Org κ Ty} {w0 w w':World} {ρ ρ':Nat→Loc} {env:Env κ Ty} {objs objs':am_ κ Ty} {a:Act}
theorem yd_ (HC:aO_ C) (S:SRel C Mut Lent w0 ρ env objs a.tmps w) {x:AV κ Ty} {u:Value} {t:κ} {xs:List (Ty t)} {bs:List Int} (hx:VRel C w Mut ρ objs x u) (h:hC_ objs x=some ⟨t,xs⟩) (hb:C.bytes t xs=some bs):
    ∃A n c,u= .slice A n c∧(Conv.bytesToString u).run P w= .ok (.string (iJ_ bs)) w:=by
  obtain ⟨A,c,blk,off,rfl,hc,hA,hcell⟩:=hu_ HC S hx h
  obtain ⟨hlen,hrow⟩:=HC.bytes t xs bs hb
  refine ⟨_,_,_,rfl, ?_⟩
  by_cases hne:xs=[]
  ·subst hne
   have:bs=[]:=List.length_eq_zero_iff.mp (by simpa using hlen)
   subst this
   cases A with
   | none=>simp [Conv.bytesToString,iJ_]
   | some A=>
     exact run_bytesToString w A 0 c [] (by simpa using run_loadCells_list (P:=P) (w:=w) A [] (by simp))
  ·obtain ⟨rfl,hlt⟩:=hA hne
   have hsz:C.sz t=1:=by
     obtain ⟨y,ys,rfl⟩:=List.exists_cons_of_ne_nil hne
     obtain ⟨b,bs',rfl⟩:∃b bs',bs=b::bs':=by cases bs with | nil=>simp at hlen | cons b bs'=>exact ⟨b,bs',rfl⟩
     rw [←HC.len t y,hrow 0 y b rfl rfl];rfl
   have:=run_loadCells_list (P:=P) (w:=w) (at' blk off) (bs.map (Value.int .u8)) (fun j v hj=>by
     simp only [List.getElem?_map,Option.map_eq_some_iff] at hj
     obtain ⟨b,hj,rfl⟩:=hj
     have hjl:=(List.getElem?_eq_some_iff.mp hj).1
     have hy:xs[j]? =some (xs[j]'(by omega)):=List.getElem?_eq_getElem _
     have he:=hrow j _ b hy hj
     obtain ⟨v,g1,g2⟩:=hcell j _ 0 (.lit (.int .u8 b)) hy (by rw [he];rfl)
     obtain ⟨rfl,_⟩:=aU_ g2
     rw [fS_,←g1,hsz];congr 2;omega)
   rw [List.length_map,hlen] at this
   exact run_bytesToString w _ _ c bs this
end
end Km
namespace Km
open Go
set_option linter.unusedVariables false
set_option linter.unusedSimpArgs false
variable {κ:Type} {Ty:κ→Type} {R:Type}
section
variable {P:Program} {C:Cod κ Ty} {T:TypeId→Option (TI κ Ty)}
variable {Mut:Nat→Prop} {Lent:Org κ Ty} {w0 w w':World} {ρ ρ':Nat→Loc} {env:Env κ Ty} {objs objs':am_ κ Ty} {a:Act} {tm:Array Value}
theorem pi_ (HT:TOk P C T) {d m:Nat} {xs ys:List (AV κ Ty)} {us qs:List Value} (hx:Cells C w Mut ρ objs xs us) (hy:Cells C w Mut ρ objs ys qs)
    (hE:∀(t:TypeId) (x y:AV κ Ty) (u q:Value) (b:Bool),aeq T d t x y=some b→VRel C w Mut ρ objs x u→VRel C w Mut ρ objs y q→(Op.equalIn (d+m) t u q).run P w= .ok b w):
    ∀ (fs : List Field) (b : Bool), (∀ f ∈ fs, f.name ≠ "_") → y1_ T (aeq T d) (fs.map fun f => (f.offset, f.type)) xs ys = some b → (Op.eqFields (d + m) us.toArray qs.toArray fs).run P w = .ok b w
  | [],b,_,h=>by cases h;rfl
  | f::fs,b,hn,h=>by
    simp only [List.map_cons,y1_] at h
    split at h
    ·rename_i ti ht
     split at h
     ·rename_i p q hp hq
      split at h
      ·rename_i r hr
       split at h
       ·rename_i r' hr'
        cases h
        obtain ⟨u,u1,u2⟩:=jG_ (P:=P) HT ht hx hp
        obtain ⟨v,v1,v2⟩:=jG_ (P:=P) HT ht hy hq
        have he:=hE _ _ _ _ _ _ hr u2 v2
        have hrest:=pi_ HT hx hy hE fs r' (fun g hg=>hn g (List.mem_cons_of_mem _ hg)) hr'
        simp only [Op.eqFields]
        rw [if_pos (hn f (List.mem_cons_self ..))]
        simp only [Sem.run_bind,u1,v1,he,Result.andThen_ok]
        cases r
        ·simp
        ·simpa using hrest
       ·cases h
      ·cases h
     ·cases h
    ·cases h
theorem pF_ (HT:TOk P C T):∀(d m:Nat) (t:TypeId) (x y:AV κ Ty) (u q:Value) (b:Bool),aeq T d t x y=some b→VRel C w Mut ρ objs x u→VRel C w Mut ρ objs y q→(Op.equalIn (d+m) t u q).run P w= .ok b w
  | 0,m,t,x,y,u,q,b,h,_,_=>by cases h
  | d+1,m,t,x,y,u,q,b,h,hx,hy=>by
    rw [show d+1+m=d+m+1 by omega]
    unfold aeq at h
    split at h
    ·cases h
    ·rename_i ti ht
     split at h
     ·rename_i k0 hs
      split at h
      ·split at h
       ·rename_i k p k' q' hk
        have hk:=of_decide_eq_true hk
        subst hk
        obtain ⟨rfl,_⟩:=aU_ hx
        obtain ⟨rfl,_⟩:=aU_ hy
        cases h
        exact run_equalIn_int w _ t _ _ _ _ (HT.int t ti _ ht hs)
       ·cases h
      ·cases h
     ·rename_i hs
      split at h
      ·obtain ⟨rfl,_⟩:=aU_ hx
       obtain ⟨rfl,_⟩:=aU_ hy
       cases h
       exact zI_ (HT.bool t ti ht hs) _ _ _
      ·cases h
     ·rename_i hs
      split at h
      ·obtain ⟨rfl,_⟩:=aU_ hx
       obtain ⟨rfl,_⟩:=aU_ hy
       cases h
       exact run_equalIn_string w _ t _ _ (HT.str t ti ht hs)
      ·cases h
     ·rename_i fs hs
      split at h
      ·rename_i xs ys
       obtain ⟨fields,hu,hfs,_⟩:=HT.struct t ti fs ht hs
       obtain ⟨hst,_,hnm⟩:=HT.seq t ti fs ht hs
       have hxc:=fl_ (C:=C) (w:=w) (Mut:=Mut) (ρ:=ρ) (objs:=objs) (x:= .agg xs) rfl hx
       have hyc:=fl_ (C:=C) (w:=w) (Mut:=Mut) (ρ:=ρ) (objs:=objs) (x:= .agg ys) rfl hy
       have hfd:P.fieldsOf t=fields:=by simp [Program.fieldsOf,hu]
       cases hx with
       | agg l1 c1 r1=>
         cases hy with
         | agg l2 c2 r2=>
           rename_i us qs
           rw [run_equalIn_struct w _ t _ _ (by rw [hfd];exact hu) hst,hfd]
           refine pi_ HT ⟨l1,c1,r1⟩ ⟨l2,c2,r2⟩ (fun t x y u q b h1 h2 h3=>pF_ HT d m t x y u q b h1 h2 h3) fields.toList b (fun f hf=>hnm fields hu f hf) (by rw [hfs];exact h)
      ·cases h
     ·cases h
theorem xU_ (HT:TOk P C T) {t:TypeId} {ti:TI κ Ty} (ht:T t=some ti) (ha:ti.agg=true) {x y:AV κ Ty} {u q:Value} (ox oy:Operand) (hx:VRel C w Mut ρ objs x u) (hy:VRel C w Mut ρ objs y q) {b:Bool} (h:aeq T 8 t x y=some b):
    (do eqGuard .eql t ox oy u q;binOp .eql t u q:Sem Value).run P w= .ok (.bool b) w∧(do eqGuard .neq t ox oy u q;binOp .neq t u q:Sem Value).run P w= .ok (.bool (!b)) w:=by
  have he:=pF_ (P:=P) HT 8 9992 t x y u q b h hx hy
  have hs:∃fs,ti.shp= .struct fs:=by
    unfold aeq at h
    rw [ht] at h
    simp only [TI.agg] at ha
    split at ha<;>rename_i hs
    ·exact ⟨_,hs⟩
    ·dsimp only at h;rw [hs] at h;cases h
    ·cases ha
  obtain ⟨fs,hs⟩:=hs
  obtain ⟨_,hg,_⟩:=HT.seq t ti fs ht hs
  have hxa:(∃xs,x= .agg xs)∧∃ys,y= .agg ys:=by
    unfold aeq at h
    rw [ht] at h;dsimp only at h
    rw [hs] at h;dsimp only at h
    split at h
    ·exact ⟨⟨_,rfl⟩,_,rfl⟩
    ·cases h
  obtain ⟨⟨xs,rfl⟩,ys,rfl⟩:=hxa
  cases hx with
  | agg l1 c1 r1=>
    cases hy with
    | agg l2 c2 r2=>
      rename_i us qs
      constructor
      ·rw [Sem.run_bind,run_eqGuard_agg (P:=P) w _ t ox oy _ _ hg,Result.andThen_ok,run_eql_struct]
       rw [show (10000:Nat)=8+9992 from rfl,he];rfl
      ·rw [Sem.run_bind,run_eqGuard_agg (P:=P) w _ t ox oy _ _ hg,Result.andThen_ok,run_neq_struct]
       rw [show (10000:Nat)=8+9992 from rfl,he];rfl
theorem SRel.newSlF (S:SRel C Mut Lent w0 ρ env objs tm w) {t:κ} {xs:List (Ty t)} {cap:Nat} {us:Array Value} (e:TypeId) {f1 f2:Nat} (hf:cap*C.sz t≤f1) (hr:xt_ C w Mut ρ objs t xs cap (fun q=>us[q]?)):
    SRel C Mut Lent w0 (upd ρ objs.length ⟨w.heap.size,0,cap,noSub⟩) env (objs++[.sl t xs]) tm (w.alloc (.cells us e (f1,f2))):=by
  refine (S.fresh (o:= .sl t xs) (l:=⟨w.heap.size,0,cap,noSub⟩) (w':=w.alloc (.cells us e (f1,f2))) (fun b h=>bh_ w _ h) (by simp) (Nat.le_refl _) (fun W=> ?_) rfl rfl rfl).2
  have hnew:(w.alloc (.cells us e (f1,f2))).heap[w.heap.size]? =some (.cells us e (f1,f2)):=by
    show (w.heap.push (.cells us e (f1,f2)))[w.heap.size]? =_
    simp
  have hcell:∀q,(w.alloc (.cells us e (f1,f2))).cell? (at' w.heap.size q)=us[q]? :=fun q=>by
    simp only [World.cell?,at',hnew];rfl
  unfold ORel
  rw [a0_,ay_]
  refine ⟨hr.le,fun _=>by simp,fun i x j cl hx hj=> ?_,fun q hq=> ?_⟩
  ·obtain ⟨v,h1,h2⟩:=hr.row i x j cl hx hj
   exact ⟨v,by simp only [Nat.zero_add];rw [hcell];exact h1,h2.step W (by simp) (dS_ _ _)⟩
  ·obtain ⟨v,h1,h2⟩:=hr.room q hq
   refine ⟨v,by simp only [Nat.zero_add];rw [hcell];exact h1,h2, ?_⟩
   simp only [World.frozen?,at',hnew,Nat.zero_add]
   have hq':q<cap*C.sz t:=hq
   simp;omega
theorem rv_ (HT:TOk P C T) (HC:aO_ C) (S:SRel C Mut Lent w0 ρ env objs tm w) {src dst e:TypeId} {ti td te:TI κ Ty} {s:κ} (h1:T src=some ti) (hs1:ti.shp= .str) (h2:T dst=some td) (hs2:td.shp= .slice e s)
    (h3:T e=some te) (hs3:te.shp= .int .u8) {b:ByteArray} {ys:List (Ty s)} (hb:C.ofb s b=some ys):
    ∃u' w' ρ',(convert src dst (.string b)).run P w= .ok u' w'∧SRel C Mut Lent w0 ρ' env (objs++[.sl s ys]) tm w'∧VRel C w' Mut ρ' (objs++[.sl s ys]) (.own objs.length) u':=by
  obtain ⟨hsl,ie,i1,i2,i3⟩:=HT.slice dst td e s h2 hs2
  have hu8:=HT.int e te _ h3 hs3
  have hstr:=HT.str src ti h1 hs1
  obtain ⟨hlen,hrow,hsz⟩:=HC.ofb s b ys hb
  have hrun:=run_bytes_of_string w src dst e b hstr hsl hu8
  have hcap:b.size≤grownCap w b.size 0 e:=(grownCap_ge w b.size 0 e)
  have S':=S.drew
  have hR:xt_ C w.drew Mut ρ objs s ys (grownCap w b.size 0 e) (fun q=>(bytesRow b (grownCap w b.size 0 e))[q]?):=by
    refine ⟨by rw [hlen];exact hcap,fun i x j cl hx hj=> ?_,fun q hq=> ?_⟩
    ·obtain ⟨c,c1,c2⟩:=hrow i x hx
     have hjl:=(List.getElem?_eq_some_iff.mp hj).1
     rw [HC.len,hsz] at hjl
     obtain rfl:j=0:=by omega
     rw [c2] at hj;cases hj
     refine ⟨_, ?_, .lit rfl⟩
     have hlt:=(Array.getElem?_eq_some_iff.mp c1).1
     simp only [bytesRow,hsz,Nat.mul_one,Nat.add_zero]
     rw [Array.getElem?_append_left (by simpa using hlt),Array.getElem?_map,c1];rfl
    ·rw [hsz,Nat.mul_one] at hq
     have hsize:(bytesRow b (grownCap w b.size 0 e)).size=grownCap w b.size 0 e:=by
       simp only [bytesRow,Array.size_append,Array.size_map,Array.size_replicate]
       show b.size+_=_
       omega
     refine ⟨(bytesRow b (grownCap w b.size 0 e))[q]'(by omega),Array.getElem?_eq_getElem _, ?_⟩
     have:∀v∈bytesRow b (grownCap w b.size 0 e),aL_ v=true:=fun v hv=>by
       simp only [bytesRow,Array.mem_append,Array.mem_map,Array.mem_replicate] at hv
       rcases hv with ⟨c,_,rfl⟩ | ⟨_,rfl⟩<;>rfl
     exact this _ (Array.getElem_mem _)
  have hsize:(bytesRow b (grownCap w b.size 0 e)).size=grownCap w b.size 0 e:=by
    simp only [bytesRow,Array.size_append,Array.size_map,Array.size_replicate]
    show b.size+_=_
    omega
  refine ⟨_,_,_,hrun,S'.newSlF e (by rw [hsz,hsize];omega) hR, ?_⟩
  have:=VRel.own (C:=C) (w:=w.drew.alloc (.cells (bytesRow b (grownCap w b.size 0 e)) e ((bytesRow b (grownCap w b.size 0 e)).size,(bytesRow b (grownCap w b.size 0 e)).size+1))) (Mut:=Mut) (ρ:=upd ρ objs.length ⟨w.heap.size,0,grownCap w b.size 0 e,noSub⟩) (a0_ objs (.sl s ys)) (A:=some (at' w.heap.size 0)) (fun _=>by rw [ay_])
  rw [ay_,hlen] at this
  exact this
theorem sT_ (HT:TOk P C T) (HC:aO_ C) (S:SRel C Mut Lent w0 ρ env objs tm w) {t:TypeId} {ti:TI κ Ty} (ht:T t=some ti) {x:AV κ Ty} {u:Value} {k k':IntKind} {h m:Int} (hx:VRel C w Mut ρ objs x u)
    {K:AV κ Ty→Option R} {r:R} (hr:hP_ C objs ti.shp x h m K=some r):∃v u',K v=some r∧(Instr.sliceAt t u none (some (.int k h)) (some (.int k' m))).run P w= .ok u' w∧VRel C w Mut ρ objs v u':=by
  unfold hP_ at hr
  split at hr
  ·rename_i e s hs
   split at hr
   ·rename_i id
    split at hr
    ·rename_i t' xs hsl
     split at hr
     ·rename_i hsame
      have hst:=HC.same _ _ hsame
      subst hst
      obtain ⟨p,hp,hr⟩:=bind_some hr
      split at hp
      ·rename_i e0
       subst e0
       unfold wnd at hp
       split at hp
       ·rename_i hw
        cases hp
        obtain ⟨u1,ie,i1,i2,i3⟩:=HT.slice t ti e s ht hs
        have hsl':=a7_ hsl
        have ho:=S.ob id
        simp only [ORel,hsl'] at ho
        cases hx with
        | own h1 hA=>
          rw [hsl'] at h1;cases h1
          rename_i A
          refine ⟨_, .slice (if h.toNat=0 then A else A.map (·.add (0*C.sz s))) (h.toNat-0) (h.toNat-0),hr, ?_, .sub hsl' (by omega) (by omega) (Nat.le_refl _) (by have:=ho.1;simp;omega) (fun hc=> ?_)⟩
          ·have hb1:(Instr.sliceBound (.int k' h) (ρ id).cap .slice3Acap).run P w= .ok h.toNat w:=by
             simp only [Instr.sliceBound,asIntOf,Sem.run_bind,Sem.run_pure,Result.andThen_ok]
             rw [if_pos ⟨by omega,by have:=ho.1;omega⟩];rfl
           have hb2:(Instr.sliceBound (.int k h) h.toNat .slice3B).run P w= .ok h.toNat w:=by
             simp only [Instr.sliceBound,asIntOf,Sem.run_bind,Sem.run_pure,Result.andThen_ok]
             rw [if_pos ⟨by omega,by omega⟩];rfl
           simp only [Instr.sliceAt,Instr.sureAddr,Sem.run_bind,Sem.run_pure,Result.andThen_ok,Instr.slice,run_underlying u1,Instr.sliceBounds,if_true,hb1,hb2,hj_ i1,i2]
          ·have hne:h.toNat≠0:=by omega
           have hc':(ρ id).cap≠0:=by have:=ho.1;omega
           rw [if_neg hne,hA hc']
           simp [fS_]
        | ownd hcl hin h1=>rw [h1] at hsl;cases hsl
       ·cases hp
      ·cases hp
     ·cases hr
    ·cases hr
   ·cases hr
  ·cases hr
theorem SRel.storeRows (HC:aO_ C) (S:SRel C Mut Lent w0 ρ env objs tm w) {id p:Nat} {t:κ} {xs zs:List (Ty t)} {us:List Value} (hid:objs[id]? =some (.sl t xs)) (hne:zs≠[]) (hp:p+zs.length≤xs.length) (hus:us.length=zs.length*C.sz t)
    (hisc:∀(q:Nat) (v:Value),us[q]? =some v→aL_ v=true) (hrel:∀i z j cl,zs[i]? =some z→(C.enc t z)[j]? =some cl→∃v,us[i*C.sz t+j]? =some v∧VRel C w Mut ρ objs cl v):
    SRel C Mut Lent w0 ρ env (objs.set id (.sl t (xs.take p++(zs++xs.drop (p+zs.length))))) tm (w.setCells (ρ id).block ((ρ id).off+p*C.sz t) us):=by
  have hlt:=(List.getElem?_eq_some_iff.mp hid).1
  have hzl:=List.length_pos_iff.mpr hne
  have ho:=S.ob id
  simp only [ORel,hid] at ho
  obtain ⟨ho1,ho2,ho3,ho4⟩:=ho
  have hcap:(ρ id).cap≠0:=by omega
  have hfoot:ah_ ρ objs id (ρ id).block:=bD_ hid hcap
  generalize hxs':xs.take p++(zs++xs.drop (p+zs.length))=xs'
  have hlen':xs'.length=xs.length:=by subst hxs';simp;omega
  have hget:∀i,xs'[i]? =if p≤i∧i<p+zs.length then zs[i-p]? else xs[i]? :=fun i=>by
    subst hxs'
    by_cases h1:i<p
    ·rw [List.getElem?_append_left (by simp;omega),List.getElem?_take_of_lt h1,if_neg (by omega)]
    ·rw [List.getElem?_append_right (by simp;omega)]
     have e:i-(xs.take p).length=i-p:=by simp;omega
     rw [e]
     by_cases h2:i<p+zs.length
     ·rw [List.getElem?_append_left (by omega),if_pos (by omega)]
     ·rw [List.getElem?_append_right (by omega),List.getElem?_drop,if_neg (by omega)]
      congr 1;omega
  have hset:(objs.set id (AObj.sl t xs'))[id]? =some (.sl t xs'):=by simp [hlt]
  have hnek:∀k,k≠id→(objs.set id (AObj.sl t xs'))[k]? =objs[k]? :=fun k h=>List.getElem?_set_ne (Ne.symm h)
  have hft:∀k b,ah_ ρ (objs.set id (AObj.sl t xs')) k b→ah_ ρ objs k b:=fun k b h=>by
    by_cases e:k=id
    ·subst e;unfold ah_ at h⊢;rw [hset] at h;rw [hid];exact h
    ·unfold ah_ at h⊢;rw [hnek k e] at h;exact h
  have hpz:(p+zs.length)*C.sz t≤(ρ id).cap*C.sz t:=Nat.mul_le_mul_right _ (by omega)
  rw [Nat.add_mul] at hpz
  have hroom:∀k,k<us.length→∃u,w.cell? (at' (ρ id).block ((ρ id).off+p*C.sz t+k))=some u:=fun k hk=>by
    obtain ⟨v,a1,_⟩:=ho4 (p*C.sz t+k) (by omega)
    exact ⟨v,by rw [←a1];congr 2;omega⟩
  have hcell:=fun q=>e1_ (w:=w) (b:=(ρ id).block) (o:=(ρ id).off+p*C.sz t) (vs:=us) (q:=q) hroom
  have W:WStep w (w.setCells (ρ id).block ((ρ id).off+p*C.sz t) us) (aN_ ρ objs) (aN_ ρ (objs.set id (AObj.sl t xs'))):=
    ⟨fun b _ hb=>a1_ _ _ _ _ _ (fun e=>hb ⟨id,e▸hfoot⟩),by rw [bk_];exact Nat.le_refl _,fun b ⟨k,hk⟩=> .inl ⟨k,hft k b hk⟩⟩
  have hcm:∀k,Compat ρ objs ρ (objs.set id (AObj.sl t xs')) k:=fun k=>by
    by_cases e:k=id
    ·subst e;unfold Compat;rw [hid];exact .inl ⟨_,hset,hlen',rfl⟩
    ·exact Compat.of_eq (fun _=>hnek k e) (fun _=>rfl)
  obtain ⟨o1,o2,o3⟩:=ff_ (ρ id).block us ((ρ id).off+p*C.sz t) w
  refine S.step W (by simp) hcm (fun k=> ?_) (fun k j b hi hj=>S.inj k j b (hft k b hi) (hft j b hj)) o1 o2 o3
  by_cases e:k=id
  ·subst e
   unfold ORel
   rw [hset]
   refine ⟨by rw [hlen'];exact ho1,fun h=>by rw [bk_];exact ho2 h,fun i x j cl hx hj=> ?_,fun q hq=> ?_⟩
   ·have hjs:j<C.sz t:=by have:=(List.getElem?_eq_some_iff.mp hj).1;rwa [HC.len] at this
    rw [hget] at hx
    split at hx
    ·rename_i hin
     obtain ⟨v,a1,a2⟩:=hrel _ _ _ _ hx hj
     refine ⟨v, ?_,a2.step W (by simp) hcm⟩
     have hul:=(List.getElem?_eq_some_iff.mp a1).1
     have hei:i*C.sz t=p*C.sz t+(i-p)*C.sz t:=by rw [←Nat.add_mul];congr 1;omega
     rw [hcell,if_pos (by omega),←a1];congr 1;omega
    ·rename_i hin
     obtain ⟨v,a1,a2⟩:=ho3 i x j cl hx hj
     refine ⟨v, ?_,a2.step W (by simp) hcm⟩
     rw [hcell,if_neg]
     ·exact a1
     ·rintro ⟨b1,b2⟩
      rw [hus] at b2
      by_cases hip:i<p
      ·have:=fU_ (n:=p) (s:=C.sz t) hip hjs;omega
      ·have:(p+zs.length)*C.sz t≤i*C.sz t:=Nat.mul_le_mul_right _ (by omega)
       rw [Nat.add_mul] at this;omega
   ·obtain ⟨v,a1,a2,a3⟩:=ho4 q hq
    by_cases hin:(ρ k).off+p*C.sz t≤(ρ k).off+q∧(ρ k).off+q<(ρ k).off+p*C.sz t+us.length
    ·have hk:us[(ρ k).off+q-((ρ k).off+p*C.sz t)]? =some (us[(ρ k).off+q-((ρ k).off+p*C.sz t)]'(by omega)):=List.getElem?_eq_getElem _
     exact ⟨_,by rw [hcell,if_pos hin];exact hk,hisc _ _ hk,by rw [World.frozen?_setCells];exact a3⟩
    ·exact ⟨v,by rw [hcell,if_neg hin];exact a1,a2,by rw [World.frozen?_setCells];exact a3⟩
  ·exact ORel.step W (by simp) hcm (S.ob k) (hnek k e) rfl (fun b hb=>a1_ _ _ _ _ _ (fun e'=>e (S.inj k id b hb (e'▸hfoot))))
theorem rM_ {size n:Nat} {A:Option Addr} {l l' c c':Nat}:Builtin.firstCells size n (.slice A l c)=Builtin.firstCells size n (.slice A l' c'):=by cases A<;>rfl
theorem sf_ (HC:aO_ C) (S:SRel C Mut Lent w0 ρ env objs tm w) {t1 t2 e ty:TypeId} {t:κ} {ie:TypeInfo} (hu:P.underlying t1=some (.slice e)) (hi:P.info? e=some ie) (hsz:ie.size=C.sz t)
    {id lo hi' c:Nat} {xs ys:List (Ty t)} {A:Option Addr} (hid:objs[id]? =some (.sl t xs)) (hlo:lo≤hi') (hhi:hi'≤xs.length) (hA:hi'-lo≠0→A=some (at' (ρ id).block ((ρ id).off+lo*C.sz t)))
    {B:Option Addr} {cb blk off:Nat} (hB:ys≠[]→B=some (at' blk off)∧blk<w.heap.size) (hrow:∀i y j cl,ys[i]? =some y→(C.enc t y)[j]? =some cl→∃v,w.cell? (at' blk (off+i*C.sz t+j))=some v∧VRel C w Mut ρ objs cl v):
    ∃w',(Builtin.copy_ #[t1,t2] ty #[.slice A (hi'-lo) c, .slice B ys.length cb]).run P w= .ok (.int .i64 (min ys.length (hi'-lo):Nat)) w'∧SRel C Mut Lent w0 ρ env (objs.set id (.sl t (cpy xs lo hi' ys))) tm w':=by
  have hlt:=(List.getElem?_eq_some_iff.mp hid).1
  have hzl:(ys.take (hi'-lo)).length=min (hi'-lo) ys.length:=by simp
  obtain ⟨vs,v1,v2,v3,v4⟩:=fP_ (P:=P) (C:=C) (w:=w) (Mut:=Mut) (ρ:=ρ) (objs:=objs) HC (xs:=ys.take (hi'-lo)) (A:=B) (c:=cb) (blk:=blk) (off:=off) (fun hne=>hB (fun e=>hne (by rw [e];simp))) (fun i y j cl h1 h2=>hrow i y j cl (by
    have hl:=(List.getElem?_eq_some_iff.mp h1).1
    rw [List.getElem?_take_of_lt (by rw [hzl] at hl;omega)] at h1;exact h1) h2)
  have hfc:(Builtin.firstCells (C.sz t) (Nat.min ys.length (hi'-lo)) (.slice B ys.length cb)).run P w= .ok vs.toArray w:=by
    have:=v2 w (fun _=>rfl)
    rw [hzl] at this
    rw [rM_ (l':=min (hi'-lo) ys.length) (c':=cb),show Nat.min ys.length (hi'-lo)=min (hi'-lo) ys.length from Nat.min_comm _ _]
    exact this
  have hcp:∀(w':World) (cs:List Value),(∀a,A=some a→(storeCells a cs).run P w= .ok () w')→(A=none→w'=w)→vs=cs→
   (Builtin.copy_ #[t1,t2] ty #[.slice A (hi'-lo) c, .slice B ys.length cb]).run P w= .ok (.int .i64 (min ys.length (hi'-lo):Nat)) w':=fun w' cs h h0 e=>by
    subst e
    have:((min ys.length (hi'-lo):Nat):Int)=((Nat.min ys.length (hi'-lo):Nat):Int):=rfl
    rw [this]
    simp only [Builtin.copy_,Sem.run_bind,run_underlying hu,Result.andThen_ok,Builtin.lenOf,Sem.run_pure,hj_ hi,hsz]
    simp only [List.getElem?_toArray,List.getElem?_cons_zero,List.getElem?_cons_succ]
    simp only [Sem.run_bind,run_underlying hu,Result.andThen_ok,Builtin.lenOf,Sem.run_pure,hj_ hi,hsz,hfc]
    cases A with
    | none=>rw [h0 rfl];rfl
    | some a=>simp only [Sem.run_bind,h a rfl,Result.andThen_ok,Sem.run_pure];rfl
  by_cases hne:ys.take (hi'-lo)=[]
  ·
    have hvs:vs=[]:=List.length_eq_zero_iff.mp (by rw [v1,hne];simp)
    subst hvs
    have hc0:cpy xs lo hi' ys=xs:=by
      have hm:min (hi'-lo) ys.length=0:=by rw [←hzl,hne];rfl
      unfold cpy
      rw [hne,hm];simp
    refine ⟨w, ?_, ?_⟩
    ·exact hcp w [] (fun a _=>rfl) (fun _=>rfl) rfl
    ·rw [hc0]
     have:objs.set id (.sl t xs)=objs:=by
       apply List.ext_getElem?
       intro k
       by_cases hk:k=id
       ·subst hk;rw [List.getElem?_set_self hlt,hid]
       ·rw [List.getElem?_set_ne (Ne.symm hk)]
     rw [this];exact S
  ·have hpos:=List.length_pos_iff.mpr hne
   rw [hzl] at hpos
   obtain rfl:=hA (by omega)
   have hst:=S.storeRows HC (id:=id) (p:=lo) (zs:=ys.take (hi'-lo)) (us:=vs) hid hne (by rw [hzl];omega) v1 v3 v4
   have ho:=S.ob id
   simp only [ORel,hid] at ho
   have hpz:(lo+min (hi'-lo) ys.length)*C.sz t≤(ρ id).cap*C.sz t:=Nat.mul_le_mul_right _ (by have:=ho.1;omega)
   rw [Nat.add_mul] at hpz
   rw [hzl] at v1
   have hsc:=run_storeCells_cells (P:=P) (ρ id).block ((ρ id).off+lo*C.sz t) vs 0 w (fun j hj=>by
     obtain ⟨v,g1,_⟩:=ho.2.2.2 (lo*C.sz t+j) (by omega)
     simp only [Nat.add_zero];rw [show (⟨(ρ id).block,(ρ id).off+lo*C.sz t+j,none⟩:Addr)=at' (ρ id).block ((ρ id).off+(lo*C.sz t+j)) by simp [at',Nat.add_assoc],g1];rfl) (fun j hj=>by
     obtain ⟨v,_,_,g2⟩:=ho.2.2.2 (lo*C.sz t+j) (by omega)
     simp only [Nat.add_zero];rw [show (⟨(ρ id).block,(ρ id).off+lo*C.sz t+j,none⟩:Addr)=at' (ρ id).block ((ρ id).off+(lo*C.sz t+j)) by simp [at',Nat.add_assoc]];exact g2) (fun v hv=>by
     obtain ⟨q,hq⟩:=List.getElem?_of_mem hv
     exact mZ_ (v3 q v hq))
   simp only [Nat.add_zero] at hsc
   refine ⟨w.setCells (ρ id).block ((ρ id).off+lo*C.sz t) vs, ?_, ?_⟩
   ·exact hcp _ vs (fun a ha=>by cases ha;exact hsc) (fun h=>by cases h) rfl
   ·have:cpy xs lo hi' ys=xs.take lo++(ys.take (hi'-lo)++xs.drop (lo+(ys.take (hi'-lo)).length)):=by unfold cpy;rw [hzl]
    rw [this];exact hst
theorem vX_ (HT:TOk P C T) (HC:aO_ C) (S:SRel C Mut Lent w0 ρ env objs a.tmps w) {t1 t2 e1 ty:TypeId} {i1:TI κ Ty} {s1:κ} (h1:T t1=some i1) (hs1:i1.shp= .slice e1 s1) {x y:AV κ Ty} {u q:Value} (hx:VRel C w Mut ρ objs x u) (hy:VRel C w Mut ρ objs y q)
    {K:AV κ Ty→am_ κ Ty→Option R} {r:R} (h:uS_ C objs s1 x y K=some r):∃n objs' w',K (.lit (.int .i64 n)) objs'=some r∧(Builtin.copy_ #[t1,t2] ty #[u,q]).run P w= .ok (.int .i64 n) w'∧SRel C Mut Lent w0 ρ env objs' a.tmps w':=by
  obtain ⟨hu,ie,i2,i3,_⟩:=HT.slice t1 i1 e1 s1 h1 hs1
  unfold uS_ at h
  split at h
  ·cases h
  ·rename_i s ys hr
   obtain ⟨B,cb,blk,off,rfl,hcb,hB,hrow⟩:=hu_ HC S hy hr
   split at h
   ·rename_i id
    split at h
    ·rename_i t xs hsl
     split at h
     ·rename_i hsame
      have:=HC.same _ _ hsame
      subst this
      obtain ⟨e,h⟩:=iM_ HC h
      subst e
      have hsl':=a7_ hsl
      have ho:=S.ob id
      simp only [ORel,hsl'] at ho
      cases hx with
      | own g1 hA=>
        rename_i A
        rw [hsl'] at g1;cases g1
        have hA':xs.length-0≠0→A=some (at' (ρ id).block ((ρ id).off+0*C.sz s)):=fun hne=>by
          rw [Nat.zero_mul,Nat.add_zero];exact hA (by have:=ho.1;omega)
        obtain ⟨w',k1,k2⟩:=sf_ (P:=P) (ty:=ty) (t2:=t2) HC S hu i2 i3 hsl' (lo:=0) (hi':=xs.length) (c:=(ρ id).cap) (A:=A) (by omega) (Nat.le_refl _) hA' (cb:=cb) hB hrow
        rw [Nat.sub_zero] at k1
        exact ⟨_,_,w',h,k1,k2⟩
      | ownd hcl hin g1=>rw [g1] at hsl;cases hsl
     ·cases h
    ·cases h
   ·rename_i id lo hi
    split at h
    ·rename_i t xs hsl
     split at h
     ·rename_i hsame
      have:=HC.same _ _ hsame
      subst this
      obtain ⟨e,h⟩:=iM_ HC h
      subst e
      have hsl':=a7_ hsl
      cases hx with
      | sub g1 hlo hhi hc hcap hA=>
        rw [hsl'] at g1;cases g1
        obtain ⟨w',k1,k2⟩:=sf_ (P:=P) (ty:=ty) (t2:=t2) HC S hu i2 i3 hsl' hlo hhi (fun hne=>hA (by omega)) (cb:=cb) hB hrow
        exact ⟨_,_,w',h,k1,k2⟩
      | subd hcl hin g1=>rw [g1] at hsl;cases hsl
     ·cases h
    ·cases h
   ·cases h
end
end Km
namespace Km
open Go
set_option linter.unusedVariables false
set_option linter.unusedSimpArgs false
variable {κ:Type} {Ty:κ→Type} {R:Type}
section
variable {P:Program} {C:Cod κ Ty} {T:TypeId→Option (TI κ Ty)}
variable {Mut Mut2:Nat→Prop} {Lent:Org κ Ty} {w0 w w':World} {ρ ρ2:Nat→Loc} {env:Env κ Ty} {objs objs2:am_ κ Ty} {tm:Array Value} {g:Nat→Option Nat}
def DI_ (n:Nat):AObj κ Ty→AObj κ Ty | .rw t xs _ h=> .rw t xs n h | o=>o
theorem iW_ (o:AObj κ Ty):∃n,o=DI_ n o:=by
  cases o with
  | rw t xs g h=>exact ⟨g,rfl⟩
  | _=>exact ⟨0,rfl⟩
theorem zo_ (old:Option (AObj κ Ty)) (o:AObj κ Ty):∃n,reG old o=DI_ n o:=by
  cases o with
  | rw t xs g h=>
    unfold reG
    dsimp only
    split
    ·exact ⟨_,rfl⟩
    ·exact ⟨g,rfl⟩
  | _=>exact ⟨0,rfl⟩
def Ren (g:Nat→Option Nat) (ρ:Nat→Loc) (objs:am_ κ Ty) (ρ2:Nat→Loc) (objs2:am_ κ Ty):Prop:=
  ∀i j o,g i=some j→objs[i]? =some o→(∃n,objs2[j]? =some (DI_ n (kw_ g o)))∧ρ2 j=ρ i
def n1_ (fl:Bool) (Mut:Nat→Prop) (ρ:Nat→Loc) (objs:am_ κ Ty) (Mut2:Nat→Prop) (ρ2:Nat→Loc) (objs2:am_ κ Ty):Prop:=
  ∀b k,(b=true→fl=true)→¬Xs Mut ρ objs b k→¬Xs Mut2 ρ2 objs2 b k
theorem g6_ (HC:aO_ C) {fl:Bool} (hX:n1_ fl Mut ρ objs Mut2 ρ2 objs2) {v:AV κ Ty} {u:Value} (h:VRel C w Mut ρ objs v u):
    ((∃x,v= .lit x)∨(∃b t xs,v= .inl b t xs∧(b=true→fl=true)))→VRel C w Mut2 ρ2 objs2 v u:=by
  induction h with
  | lit h=>intro _;exact .lit h
  | @inl b t xs A c blk off vals hb hc hA hcell hrel ih=>
    rintro (⟨x,h⟩ | ⟨b',t',xs',h,hfl⟩)
    ·cases h
    ·cases h
     refine .inl (blk:=blk) (off:=off) hb hc (fun hne=> ?_) hcell (fun i x j cl hx hj=>ih i x j cl hx hj ?_)
     ·obtain ⟨a1,a2,a3⟩:=hA hne
      exact ⟨a1,a2,hX _ _ hfl a3⟩
     ·rcases HC.deep t x cl (ex_ HC hj) with ⟨q,rfl⟩ | ⟨s,ys,rfl,hs⟩
      ·exact .inl ⟨_,rfl⟩
      ·refine .inr ⟨_,_,_,rfl,fun h=> ?_⟩
       cases hbb:b with
       | true=>exact hfl hbb
       | false=>rw [hb hbb] at h;cases h
  | nil=>rintro (⟨x,h⟩ | ⟨b',t',xs',h,hfl⟩)<;>cases h
  | cadr=>rintro (⟨x,h⟩ | ⟨b',t',xs',h,hfl⟩)<;>cases h
  | ref=>rintro (⟨x,h⟩ | ⟨b',t',xs',h,hfl⟩)<;>cases h
  | refd=>rintro (⟨x,h⟩ | ⟨b',t',xs',h,hfl⟩)<;>cases h
  | eref=>rintro (⟨x,h⟩ | ⟨b',t',xs',h,hfl⟩)<;>cases h
  | erefd=>rintro (⟨x,h⟩ | ⟨b',t',xs',h,hfl⟩)<;>cases h
  | own=>rintro (⟨x,h⟩ | ⟨b',t',xs',h,hfl⟩)<;>cases h
  | ownd=>rintro (⟨x,h⟩ | ⟨b',t',xs',h,hfl⟩)<;>cases h
  | sub=>rintro (⟨x,h⟩ | ⟨b',t',xs',h,hfl⟩)<;>cases h
  | subd=>rintro (⟨x,h⟩ | ⟨b',t',xs',h,hfl⟩)<;>cases h
  | mapv=>rintro (⟨x,h⟩ | ⟨b',t',xs',h,hfl⟩)<;>cases h
  | mapd=>rintro (⟨x,h⟩ | ⟨b',t',xs',h,hfl⟩)<;>cases h
  | rwv=>rintro (⟨x,h⟩ | ⟨b',t',xs',h,hfl⟩)<;>cases h
  | rwvd=>rintro (⟨x,h⟩ | ⟨b',t',xs',h,hfl⟩)<;>cases h
  | rwp=>rintro (⟨x,h⟩ | ⟨b',t',xs',h,hfl⟩)<;>cases h
  | rwpd=>rintro (⟨x,h⟩ | ⟨b',t',xs',h,hfl⟩)<;>cases h
  | xr=>rintro (⟨x,h⟩ | ⟨b',t',xs',h,hfl⟩)<;>cases h
  | xrd=>rintro (⟨x,h⟩ | ⟨b',t',xs',h,hfl⟩)<;>cases h
  | agg=>rintro (⟨x,h⟩ | ⟨b',t',xs',h,hfl⟩)<;>cases h
  | tup=>rintro (⟨x,h⟩ | ⟨b',t',xs',h,hfl⟩)<;>cases h
  | void=>rintro (⟨x,h⟩ | ⟨b',t',xs',h,hfl⟩)<;>cases h
  | undef=>rintro (⟨x,h⟩ | ⟨b',t',xs',h,hfl⟩)<;>cases h
theorem wL_ {o:AObj κ Ty} {t:κ} {xs:List (Ty t)} (h:o= .sl t xs):kw_ g o= .sl t xs:=by subst h;rfl
theorem Ren.lt (G:Ren g ρ objs ρ2 objs2) {i j:Nat} (h:g i=some j) (hi:i<objs.length):j<objs2.length:=
  have ⟨⟨_,e⟩,_⟩:=G i j _ h (List.getElem?_eq_getElem hi);(List.getElem?_eq_some_iff.mp e).1
theorem Ren.box_none (G:Ren g ρ objs ρ2 objs2) {i j:Nat} (h:g i=some j) (hi:i<objs.length) (hb:e5_ objs i=none):e5_ objs2 j=none:=by
  obtain ⟨⟨n0,h1⟩,_⟩:=G i j _ h (List.getElem?_eq_getElem hi)
  have h2:=na_ hb
  rw [List.getElem?_eq_getElem hi] at h2
  unfold e5_;rw [h1]
  cases ho:objs[i] with
  | dead=>rfl
  | box cs=>exact absurd (by rw [ho]) (h2 cs)
  | sl t xs=>rfl
  | mp k v es h=>rfl
  | rw t xs n h=>cases h<;>rfl
  | rp t xs n=>rfl
theorem Ren.sl_none (G:Ren g ρ objs ρ2 objs2) {i j:Nat} (h:g i=some j) (hi:i<objs.length) (hb:eR_ objs i=none):eR_ objs2 j=none:=by
  obtain ⟨⟨n0,h1⟩,_⟩:=G i j _ h (List.getElem?_eq_getElem hi)
  have h2:=qq_ hb
  rw [List.getElem?_eq_getElem hi] at h2
  unfold eR_;rw [h1]
  cases ho:objs[i] with
  | dead=>rfl
  | box cs=>rfl
  | sl t xs=>exact absurd (by rw [ho]) (h2 t xs)
  | mp k v es h=>rfl
  | rw t xs n h=>cases h<;>rfl
  | rp t xs n=>rfl
theorem Ren.mp_none (G:Ren g ρ objs ρ2 objs2) {i j:Nat} (h:g i=some j) (hi:i<objs.length) (hb:r4_ objs i=false):r4_ objs2 j=false:=by
  obtain ⟨⟨n0,h1⟩,_⟩:=G i j _ h (List.getElem?_eq_getElem hi)
  have h2:=pT_ hb
  rw [List.getElem?_eq_getElem hi] at h2
  unfold r4_;rw [h1]
  cases ho:objs[i] with
  | dead=>rfl
  | box cs=>rfl
  | sl t xs=>rfl
  | mp k v es h=>exact absurd (by rw [ho]) (h2 k v es h)
  | rw t xs n h=>cases h<;>rfl
  | rp t xs n=>rfl
theorem Ren.rw_none (G:Ren g ρ objs ρ2 objs2) {i j:Nat} (h:g i=some j) (hi:i<objs.length) (hb:jJ_ objs i=false):jJ_ objs2 j=false:=by
  obtain ⟨⟨n0,h1⟩,_⟩:=G i j _ h (List.getElem?_eq_getElem hi)
  have h2:=pl_ hb
  have h3:=xX_ hb
  rw [List.getElem?_eq_getElem hi] at h2 h3
  unfold jJ_;rw [h1]
  cases ho:objs[i] with
  | dead=>rfl
  | box cs=>rfl
  | sl t xs=>rfl
  | mp k v es h=>rfl
  | rw t xs n h=>exact absurd (by rw [ho]) (h2 t xs n h)
  | rp t xs n=>exact absurd (by rw [ho]) (h3 t xs n)
theorem Ren.rws (G:Ren g ρ objs ρ2 objs2) {i j:Nat} (h:g i=some j) {t:κ} {xs:List (Ty t)} (e:d7_ objs i=some ⟨t,xs⟩):(d7_ objs2 j=some ⟨t,xs⟩∧ρ2 j=ρ i)∨(jJ_ objs2 j=false∧j<objs2.length):=by
  rcases dz_ e with ⟨n,ho,e1⟩ | ⟨n,e1⟩
  ·obtain ⟨⟨n0,e2⟩,e3⟩:=G i j _ h e1
   cases ho with
   | none=>exact .inl ⟨bb_ e2,e3⟩
   | some p=>exact .inr ⟨tT_ e2,(List.getElem?_eq_some_iff.mp e2).1⟩
  ·obtain ⟨⟨n0,e2⟩,e3⟩:=G i j _ h e1
   exact .inl ⟨c0_ e2,e3⟩
def EG_ (g:Nat→Option Nat) (h:Option (Nat×Option Nat)):Option (Nat×Option Nat):=match h with
  | some (i,some j)=>some (i,g j)
  | h=>h
theorem renH_ne {g:Nat→Option Nat} {h:Option (Nat×Option Nat)} {i:Nat}:(∀o,EG_ g h≠some (i,o))↔∀o,h≠some (i,o):=by
  unfold EG_
  split
  ·simp
  ·exact Iff.rfl
theorem zH_ (g:Nat→Option Nat) (k v:κ) (es:List (Ty k×Ty v)) (h:Option (Nat×Option Nat)):kw_ g (.mp k v es h)= .mp k v es (EG_ g h):=rfl
theorem lC_ (HC:aO_ C) {fl:Bool} (G:Ren g ρ objs ρ2 objs2) (hX:n1_ fl Mut ρ objs Mut2 ρ2 objs2) {v:AV κ Ty} {u:Value} (hs:fl=false→y7_ v=true) (h:VRel C w Mut ρ objs v u):
    VRel C w Mut2 ρ2 objs2 (np_ g v) u:=by
  cases h with
  | lit h=>exact .lit h
  | nil=>exact .nil
  | inl hb hc hA hcell hrel=>
    refine g6_ HC hX (.inl hb hc hA hcell hrel) (.inr ⟨_,_,_,rfl,fun h=> ?_⟩)
    cases hf:fl with
    | true=>rfl
    | false=>have:=hs hf;simp [y7_,h] at this
  | cadr=>exact .undef
  | ref h1=>
    simp only [np_]
    split
    ·rename_i j hj
     obtain ⟨⟨n0,e1⟩,e2⟩:=G _ _ _ hj h1
     rw [←e2];exact .ref e1
    ·exact .undef
  | refd hc hin h1=>
    simp only [np_]
    split
    ·rename_i j hj;exact .refd hc (G.lt hj hin) (G.box_none hj hin h1)
    ·exact .undef
  | eref h1 hi=>
    simp only [np_]
    split
    ·rename_i j hj
     obtain ⟨⟨n0,e1⟩,e2⟩:=G _ _ _ hj h1
     rw [←e2];exact .eref (by rw [e1,wL_ rfl];rfl) hi
    ·exact .undef
  | erefd hc hin h1=>
    simp only [np_]
    split
    ·rename_i j hj;exact .erefd hc (G.lt hj hin) (G.sl_none hj hin h1)
    ·exact .undef
  | own h1 hA=>
    simp only [np_]
    split
    ·rename_i j hj
     obtain ⟨⟨n0,e1⟩,e2⟩:=G _ _ _ hj h1
     rw [←e2];exact .own (by rw [e1,wL_ rfl];rfl) (by rw [e2];exact hA)
    ·exact .undef
  | ownd hc hin h1=>
    simp only [np_]
    split
    ·rename_i j hj;exact .ownd hc (G.lt hj hin) (G.sl_none hj hin h1)
    ·exact .undef
  | sub h1 hlo hhi hc hcap hA=>
    simp only [np_]
    split
    ·rename_i j hj
     obtain ⟨⟨n0,e1⟩,e2⟩:=G _ _ _ hj h1
     exact .sub (by rw [e1,wL_ rfl];rfl) hlo hhi hc (by rw [e2];exact hcap) (by rw [e2];exact hA)
    ·exact .undef
  | subd hc hin h1=>
    simp only [np_]
    split
    ·rename_i j hj;exact .subd hc (G.lt hj hin) (G.sl_none hj hin h1)
    ·exact .undef
  | mapv h1=>
    simp only [np_]
    split
    ·rename_i j hj
     obtain ⟨⟨n0,e1⟩,e2⟩:=G _ _ _ hj h1
     rw [←e2];exact .mapv (by rw [e1,zH_];rfl)
    ·exact .undef
  | mapd hc hin h1=>
    simp only [np_]
    split
    ·rename_i j hj;exact .mapd hc (G.lt hj hin) (G.mp_none hj hin h1)
    ·exact .undef
  | rwv h1 hA=>
    simp only [np_]
    split
    ·rename_i j hj
     rcases G.rws hj h1 with ⟨e1,e2⟩ | ⟨e1,e2⟩
     ·rw [←e2];exact .rwv e1 (by rw [e2];exact hA)
     ·exact .rwvd rfl e2 e1
    ·exact .undef
  | rwvd hc hin h1=>
    simp only [np_]
    split
    ·rename_i j hj;exact .rwvd hc (G.lt hj hin) (G.rw_none hj hin h1)
    ·exact .undef
  | rwp h1 hi=>
    simp only [np_]
    split
    ·rename_i j hj
     rcases G.rws hj h1 with ⟨e1,e2⟩ | ⟨e1,e2⟩
     ·rw [←e2];exact .rwp e1 hi
     ·exact .rwpd rfl e2 e1
    ·exact .undef
  | rwpd hc hin h1=>
    simp only [np_]
    split
    ·rename_i j hj;exact .rwpd hc (G.lt hj hin) (G.rw_none hj hin h1)
    ·exact .undef
  | xr=>exact .undef
  | xrd=>exact .undef
  | agg=>exact .undef
  | tup=>exact .undef
  | void=>exact .void
  | undef=>exact .undef
theorem w1_ (HC:aO_ C) {fl:Bool} (G:Ren g ρ objs ρ2 objs2) (hX:n1_ fl Mut ρ objs Mut2 ρ2 objs2) {v:AV κ Ty} {u:Value} (hs:fl=false→l4_ v=true) (h:VRel C w Mut ρ objs v u):
    VRel C w Mut2 ρ2 objs2 (Ax_ g v) u:=by
  by_cases hv:∃cs,v= .agg cs
  ·obtain ⟨cs,rfl⟩:=hv
   cases h with
   | agg hl hcell hrel=>
     refine .agg (by simpa using hl) hcell (fun j cl u hj hu=> ?_)
     simp only [List.getElem?_map,Option.map_eq_some_iff] at hj
     obtain ⟨c,hc,rfl⟩:=hj
     refine lC_ HC G hX (fun hf=> ?_) (hrel j c u hc hu)
     have:=hs hf
     simp only [l4_,List.all_eq_true] at this
     exact this c (List.mem_of_getElem? hc)
  ·have e:Ax_ g v=np_ g v:=by cases v<;>first | rfl | exact absurd ⟨_,rfl⟩ hv
   rw [e]
   refine lC_ HC G hX (fun hf=> ?_) h
   have:=hs hf
   cases v<;>first | exact this | exact absurd ⟨_,rfl⟩ hv | (simp [l4_] at this)
theorem o8_ (HC:aO_ C) {fl:Bool} (G:Ren g ρ objs ρ2 objs2) (hX:n1_ fl Mut ρ objs Mut2 ρ2 objs2) {v:AV κ Ty} {u:Value} (hs:fl=false→∀vs,v= .tup vs→vs.all l4_=true) (hs2:fl=false→(∀vs,v≠ .tup vs)→l4_ v=true) (h:VRel C w Mut ρ objs v u):
    VRel C w Mut2 ρ2 objs2 (o5_ g v) u:=by
  by_cases hv:∃cs,v= .tup cs
  ·obtain ⟨cs,rfl⟩:=hv
   cases h with
   | tup hl hrel=>
     refine .tup (by simpa using hl) (fun j cl u hj hu=> ?_)
     simp only [List.getElem?_map,Option.map_eq_some_iff] at hj
     obtain ⟨c,hc,rfl⟩:=hj
     refine w1_ HC G hX (fun hf=> ?_) (hrel j c u hc hu)
     have:=hs hf cs rfl
     simp only [List.all_eq_true] at this
     exact this c (List.mem_of_getElem? hc)
  ·have e:o5_ g v=Ax_ g v:=by cases v<;>first | rfl | exact absurd ⟨_,rfl⟩ hv
   rw [e]
   exact w1_ HC G hX (fun hf=>hs2 hf fun vs e=>hv ⟨vs,e⟩) h
theorem EntR.ren (HC:aO_ C) {fl:Bool} (hX:n1_ fl Mut ρ objs Mut2 ρ2 objs2) {L:Nat×Nat×Nat} {cs:List (AV κ Ty)} {u:Value} (h:EntR C w Mut ρ objs L cs u)
    (hf:∀b s xs,cs=[.inl b s xs]→C.bor s=true→fl=true):EntR C w Mut2 ρ2 objs2 L cs u:=by
  unfold EntR at h⊢
  split at h
  ·exact h
  ·rename_i b0 s0 xs0
   obtain ⟨A,h1,h2,g1,g2,g3,g4⟩:=h
   refine ⟨A,h1,h2,g1,g2,fun i x j cl hx hj=> ?_,g4⟩
   obtain ⟨u,a1,a2⟩:=g3 i x j cl hx hj
   refine ⟨u,a1,g6_ HC hX a2 ?_⟩
   rcases HC.deep _ x cl (ex_ HC hj) with ⟨y,rfl⟩ | ⟨s,ys,rfl,hb⟩
   ·exact .inl ⟨_,rfl⟩
   ·exact .inr ⟨_,_,_,rfl,fun h=>hf _ _ _ rfl h⟩
  ·exact h.elim
theorem RwRel.ren (HC:aO_ C) {fl:Bool} (hX:n1_ fl Mut ρ objs Mut2 ρ2 objs2) {L:Loc} {t:κ} {xs:List (Ty t)} {K:Nat→Nat→RK} (h:RwRel C w Mut ρ objs L t xs K)
    (hK:∀i j n,K i j≠ .hole n) (hf:∀i j,K i j= .bor→fl=true):RwRel C w Mut2 ρ2 objs2 L t xs K where
  xcl:=h.xcl
  len:=h.len
  blk:=h.blk
  cell i x j cl hx hj:=by
    obtain ⟨v,h1,h2⟩:=h.cell i x j cl hx hj
    refine ⟨v,h1, ?_⟩
    cases hk:K i j with
    | own=>
      rw [hk] at h2
      refine EntR.ren HC hX h2 fun b s ys e hb=> ?_
      cases e
      have:=HC.xin t x b s ys h.xcl (ex_ HC hj)
      rw [this] at hb;cases hb
    | hole n=>exact absurd hk (hK i j n)
    | bor=>
      rw [hk] at h2
      refine ⟨h2.1,g6_ HC hX h2.2 ?_⟩
      rcases HC.deep t x cl (ex_ HC hj) with ⟨y,rfl⟩ | ⟨s,ys,rfl,hb⟩
      ·exact .inl ⟨_,rfl⟩
      ·exact .inr ⟨_,_,_,rfl,fun _=>hf i j hk⟩
  room:=h.room
  zero:=h.zero
  disj:=h.disj
  own:=h.own
  lt:=h.lt
theorem ORel.ren (HC:aO_ C) {fl:Bool} (G:Ren g ρ objs ρ2 objs2) (hX:n1_ fl Mut ρ objs Mut2 ρ2 objs2) {i j:Nat} {o:AObj κ Ty} (hg:g i=some j) (ho:objs[i]? =some o) (hs:fl=false→tw_ C o=true) (h:ORel C w Mut ρ objs i):ORel C w Mut2 ρ2 objs2 j:=by
  obtain ⟨⟨n0,e1⟩,e2⟩:=G i j o hg ho
  unfold ORel at h⊢
  rw [ho] at h
  rw [e1,e2]
  cases o with
  | dead=>trivial
  | box cs=>
    obtain ⟨h1,h2⟩:=h
    refine ⟨h1,fun k cl hk=> ?_⟩
    simp only [List.getElem?_map,Option.map_eq_some_iff] at hk
    obtain ⟨c,hc,rfl⟩:=hk
    obtain ⟨v,a1,a2,a3,a4⟩:=h2 k c hc
    refine ⟨v,a1,a2,lC_ HC G hX (fun hf=> ?_) a3,a4⟩
    have:=hs hf
    simp only [tw_,List.all_eq_true] at this
    exact this c (List.mem_of_getElem? hc)
  | sl t xs=>
    obtain ⟨h1,h2,h3,h4⟩:=h
    refine ⟨h1,h2,fun k x q cl hx hq=> ?_,h4⟩
    obtain ⟨v,a1,a2⟩:=h3 k x q cl hx hq
    refine ⟨v,a1,g6_ HC hX a2 ?_⟩
    rcases HC.deep t x cl (ex_ HC hq) with ⟨y,rfl⟩ | ⟨s,ys,rfl,hb⟩
    ·exact .inl ⟨_,rfl⟩
    ·refine .inr ⟨_,_,_,rfl,fun h=> ?_⟩
     cases hf:fl with
     | true=>rfl
     | false=>
       have:=hs hf
       simp [tw_,h] at this
  | mp k v es hh=>
    have hfl:fl=true:=by
      cases hf:fl with
      | true=>rfl
      | false=>have:=hs hf;simp [tw_] at this
    obtain ⟨mes,h⟩:=h
    refine ⟨mes,h.size,h.at_,fun q e he=> ?_,fun q e me he hm hn=> ?_,fun q o me hq hm=> ?_,fun q o hq=> ?_,fun q hq hn=>h.own q hq (renH_ne.mp hn),fun p q hp hq hnp hnq=>h.disj p q hp hq (renH_ne.mp hnp) (renH_ne.mp hnq)⟩
    ·obtain ⟨h1,me,h2,h3,h4⟩:=h.key q e he
     refine ⟨h1,me,h2,h3, ?_⟩
     generalize hkv:me.key=kv at h4
     cases h4 with
     | agg hl hcell hrel=>
       refine .agg hl hcell fun j cl u hj hu=>g6_ HC hX (hrel j cl u hj hu) (.inl (h1 cl (List.mem_of_getElem? hj)))
    ·have hv:=h.val q e me he hm (renH_ne.mp hn)
     generalize C.enc v e.2=ce at hv⊢
     generalize me.val=mv at hv⊢
     unfold EntR at hv⊢
     split at hv
     ·exact hv
     ·obtain ⟨A,h1,h2,g1,g2,g3,g4⟩:=hv
      refine ⟨A,h1,h2,g1,g2,fun i x j cl hx hj=> ?_,g4⟩
      obtain ⟨u,a1,a2⟩:=g3 i x j cl hx hj
      refine ⟨u,a1,g6_ HC hX a2 ?_⟩
      rcases HC.deep _ x cl (ex_ HC hj) with ⟨y,rfl⟩ | ⟨s,ys,rfl,hb⟩
      ·exact .inl ⟨_,rfl⟩
      ·exact .inr ⟨_,_,_,rfl,fun _=>hfl⟩
     ·exact hv.elim
    ·unfold EG_ at hq
     split at hq
     ·rename_i q' j'
      cases hq
      obtain ⟨h1,h2⟩:=h.hole q (some j') me rfl hm
      refine ⟨h1,fun j2 hj2=> ?_⟩
      have:=lC_ HC G hX (fun hf=>by rw [hfl] at hf;cases hf) (h2 j' rfl)
      simp only [np_,hj2] at this
      exact this
     ·rename_i hnot
      obtain ⟨h1,h2⟩:=h.hole q o me hq hm
      refine ⟨h1,fun j2 hj2=> ?_⟩
      subst hj2
      exact absurd hq (hnot q j2)
    ·unfold EG_ at hq
     split at hq
     ·cases hq;exact h.hlt _ _ rfl
     ·exact h.hlt _ _ hq
  | rw t xs n hh=>
    cases hh with
    | none=>exact RwRel.ren HC hX h (fun i j n h=>by cases h) (fun i j h=>by cases h)
    | some p=>trivial
  | rp t xs n=>
    refine RwRel.ren HC hX h (fun i j n h=>by unfold AB_ at h;split at h<;>cases h) (fun i j _=> ?_)
    cases hf:fl with
    | true=>rfl
    | false=>have:=hs hf;simp [tw_] at this
end
end Km
namespace Km
open Go
set_option linter.unusedVariables false
set_option linter.unusedSimpArgs false
variable {κ:Type} {Ty:κ→Type} {R:Type}
theorem eb_ (i:Nat):∀(l:List Nat),gB_ i l=true↔i∈l
  | []=>by simp [gB_]
  | j::l=>by
    simp only [gB_]
    split
    ·rename_i h;have:=Nat.eq_of_beq_eq_true h;simp [this]
    ·rename_i h
     have hne:i≠j:=fun e=>by rw [e] at h;simp at h
     rw [eb_ i l];simp [hne]
theorem lS_:∀(l acc:List Nat),acc.Nodup→(nw_ acc l).Nodup∧(∀i,i∈nw_ acc l↔i∈acc∨i∈l)
  | [],acc,h=>⟨h,fun i=>by simp [nw_]⟩
  | i::l,acc,h=>by
    simp only [nw_]
    split
    ·rename_i hi
     have hi:=(eb_ i acc).mp hi
     obtain ⟨h1,h2⟩:=lS_ l acc h
     refine ⟨h1,fun j=> ?_⟩
     rw [h2 j];simp only [List.mem_cons]
     constructor
     ·rintro (h | h)
      ·exact .inl h
      ·exact .inr (.inr h)
     ·rintro (h | rfl | h)
      ·exact .inl h
      ·exact .inl hi
      ·exact .inr h
    ·rename_i hi
     have hi:i∉acc:=fun h=>by rw [(eb_ i acc).mpr h] at hi;cases hi
     obtain ⟨h1,h2⟩:=lS_ l (acc++[i]) (by
       rw [List.nodup_append]
       exact ⟨h,by simp,fun a ha b hb=>by simp at hb;subst hb;rintro rfl;exact hi ha⟩)
     refine ⟨h1,fun j=> ?_⟩
     rw [h2 j];simp only [List.mem_append,List.mem_cons,List.mem_singleton,List.not_mem_nil,or_false,or_assoc]
theorem fk_ {l acc:List Nat} (h:acc.Nodup):(nw_ acc l).Nodup:=(lS_ l acc h).1
theorem o1_ {l acc:List Nat} (h:acc.Nodup) (i:Nat):i∈nw_ acc l↔i∈acc∨i∈l:=(lS_ l acc h).2 i
theorem qx_ {objs:am_ κ Ty} {acc:List Nat} (h:acc.Nodup):(jS_ objs acc).Nodup:=fk_ (fk_ h)
theorem h6_:∀(l acc:List Nat),∃m,nw_ acc l=acc++m
  | [],acc=>⟨[],by simp [nw_]⟩
  | i::l,acc=>by
    simp only [nw_]
    split
    ·exact h6_ l acc
    ·obtain ⟨m,h⟩:=h6_ l (acc++[i])
     exact ⟨i::m,by rw [h];simp⟩
theorem gq_:∀{l:List Nat} {i n j:Nat},j4_ l i n=some j→n≤j∧l[j-n]? =some i
  | [],_,_,_,h=>by simp [j4_] at h
  | k::l,i,n,j,h=>by
    simp only [j4_] at h
    split at h
    ·rename_i hk
     have:=Nat.eq_of_beq_eq_true hk
     cases h;subst this;simp
    ·obtain ⟨h1,h2⟩:=gq_ h
     refine ⟨by omega, ?_⟩
     obtain ⟨d,rfl⟩:∃d,j=n+1+d:=⟨j-(n+1),by omega⟩
     rw [show n+1+d-(n+1)=d by omega] at h2
     rw [show n+1+d-n=d+1 by omega];simpa using h2
theorem me_:∀{l:List Nat} {i n:Nat},j4_ l i n=none→i∉l
  | [],_,_,_=>by simp
  | k::l,i,n,h=>by
    simp only [j4_] at h
    split at h
    ·cases h
    ·rename_i hk
     have hne:i≠k:=fun e=>by subst e;simp at hk
     have:=me_ h
     simp [hne,this]
theorem sI_ {l:List Nat} (hn:l.Nodup) {j i:Nat} (h:l[j]? =some i):j4_ l i 0=some j:=by
  cases hp:j4_ l i 0 with
  | none=>exact absurd (List.mem_of_getElem? h) (me_ hp)
  | some k=>
    obtain ⟨_,h2⟩:=gq_ hp
    simp only [Nat.sub_zero] at h2
    have hk:=(List.getElem?_eq_some_iff.mp h2).1
    have hj:=(List.getElem?_eq_some_iff.mp h).1
    have:=(List.getElem?_inj hk hn).mp (h2.trans h.symm)
    rw [this]
section
variable {P:Program} {C:Cod κ Ty} {T:TypeId→Option (TI κ Ty)}
variable {Mut:Nat→Prop} {Lent:Org κ Ty} {w0 w w':World} {ρ ρ' ρ2:Nat→Loc} {env:Env κ Ty} {objs objs' objs2:am_ κ Ty} {tm:Array Value}
def SummOk (P:Program) (C:Cod κ Ty) (f:FuncId) (S:aK_ κ Ty):Prop:=
  (∃ fn, P.funcs[f]? = some fn ∧ (fn.name == "runtime.NumGoroutine") = false ∧ fn.body.isSome = true) ∧
  ∀(args:List (AV κ Ty)) (objs:am_ κ Ty) (r:S.R),S.run args objs=some r→∀(Mut:Nat→Prop) (ρ:Nat→Loc) (vals:Array Value) (w:World),
   vals.size=args.length→(∀(j:Nat) (x:AV κ Ty) (u:Value),args[j]? =some x→vals[j]? =some u→VRel C w Mut ρ objs x u)→
   SRel C Mut ⟨ρ,objs⟩ w ρ [] objs #[] w→
   Calls P f vals w fun e w'=>∃v ρ',e= .returned v∧VRel C w' Mut ρ' (S.ret r).2 (S.ret r).1 v∧SRel C Mut ⟨ρ,objs⟩ w ρ' [] (S.ret r).2 #[] w'∧
     (∀o∈(S.ret r).2,tw_ C o=true)∧(∀vs,(S.ret r).1= .tup vs→vs.all l4_=true)∧((∀vs,(S.ret r).1≠ .tup vs)→l4_ (S.ret r).1=true)
theorem SRel.start (hob:∀id,ORel C w Mut ρ objs id) (hinj:∀i j b,ah_ ρ objs i b→ah_ ρ objs j b→i=j) (hlive:∀b,aN_ ρ objs b→¬Mut b) (hmlt:∀b,Mut b→b<w.heap.size):
    SRel C Mut ⟨ρ,objs⟩ w ρ [] objs #[] w where
  env i:= .inl rfl
  ob:=hob
  inj:=hinj
  live b hb:=⟨hlive b hb, .inl hb⟩
  comp id:= .refl id
  len:=Nat.le_refl _
  mlt:=hmlt
  frame _ _ _:=rfl
  size:=Nat.le_refl _
  os:=rfl
  tape:=rfl
  output:=rfl
def em_ (objs:am_ κ Ty) (l:List Nat):am_ κ Ty:=l.map fun i=>match objs[i]? with | some o=>kw_ (j4_ l · 0) o | none=> .dead
def fQ_ (ρ:Nat→Loc) (l:List Nat):Nat→Loc:=fun j=>ρ (l.getD j 0)
def fi_ (Mut:Nat→Prop) (ρ:Nat→Loc) (objs:am_ κ Ty) (l:List Nat):Nat→Prop:=fun b=>Mut b∨∃i,i∉l∧ah_ ρ objs i b
theorem lH_ (ρ:Nat→Loc) (objs:am_ κ Ty) (l:List Nat):Ren (j4_ l · 0) ρ objs (fQ_ ρ l) (em_ objs l):=by
  intro i j o h ho
  obtain ⟨_,h2⟩:=gq_ h
  simp only [Nat.sub_zero] at h2
  refine ⟨?_, ?_⟩
  ·obtain ⟨n,hn⟩:=iW_ (kw_ (j4_ l · 0) o)
   exact ⟨n,by simp only [em_,List.getElem?_map,h2,Option.map_some,ho];rw [←hn]⟩
  ·simp only [fQ_,List.getD,h2,Option.getD_some]
theorem nb_ {g:Nat→Option Nat} {o:AObj κ Ty} {i j b:Nat} (h1:objs[i]? =some o) (h2:∃n,objs2[j]? =some (DI_ n (kw_ g o))) (h3:ρ2 j=ρ i) (h:ah_ ρ2 objs2 j b):ah_ ρ objs i b:=by
  obtain ⟨n,h2⟩:=h2
  revert h
  unfold ah_
  rw [h1,h2,h3]
  cases o with
  | mp k v es h=>simp only [zH_,DI_,renH_ne];exact id
  | rw t xs g h=>cases h<;>first | exact id | exact False.elim
  | _=>exact id
theorem de_ {l:List Nat} (hl:∀i∈l,i<objs.length) {j b:Nat} (h:ah_ (fQ_ ρ l) (em_ objs l) j b):∃i,l[j]? =some i∧ah_ ρ objs i b:=by
  have hj:j<l.length:=by
    rcases Nat.lt_or_ge j l.length with h' | h'
    ·exact h'
    ·unfold ah_ at h
     have:(em_ objs l)[j]? =none:=List.getElem?_eq_none (by simp [em_];exact h')
     rw [this] at h;exact h.elim
  have hi:=hl _ (List.getElem_mem hj)
  refine ⟨l[j],List.getElem?_eq_getElem hj, ?_⟩
  refine nb_ (g:=(j4_ l · 0)) (List.getElem?_eq_getElem hi) ?_ ?_ h
  ·obtain ⟨n,hn⟩:=iW_ (kw_ (j4_ l · 0) objs[l[j]])
   exact ⟨n,by simp only [em_,List.getElem?_map,List.getElem?_eq_getElem hj,Option.map_some,List.getElem?_eq_getElem hi];rw [←hn]⟩
  ·simp [fQ_,List.getD,List.getElem?_eq_getElem hj]
theorem ho_ {l:List Nat} (hl:∀i∈l,i<objs.length):n1_ true Mut ρ objs (fi_ Mut ρ objs l) (fQ_ ρ l) (em_ objs l):=by
  intro b k _ h h'
  rcases h' with ⟨j,hj⟩ | ⟨hb,hm⟩
  ·obtain ⟨i,_,hi⟩:=de_ hl hj
   exact h (.inl ⟨i,hi⟩)
  ·rcases hm with hm | ⟨i,_,hi⟩
   ·exact h (.inr ⟨hb,hm⟩)
   ·exact h (.inl ⟨i,hi⟩)
theorem yl_ (HC:aO_ C) (S:SRel C Mut Lent w0 ρ env objs tm w) {l:List Nat} (hn:l.Nodup) (hl:∀i∈l,i<objs.length):
    SRel C (fi_ Mut ρ objs l) ⟨fQ_ ρ l,em_ objs l⟩ w (fQ_ ρ l) [] (em_ objs l) #[] w:=by
  refine SRel.start (fun j=> ?_) (fun i j b hi hj=> ?_) (fun b ⟨j,hj⟩ hm=> ?_) (fun b hb=> ?_)
  ·by_cases hj:j<l.length
   ·have hi:=hl _ (List.getElem_mem hj)
    exact ORel.ren HC (lH_ ρ objs l) (ho_ hl) (sI_ hn (List.getElem?_eq_getElem hj)) (List.getElem?_eq_getElem hi) (fun h=>by cases h) (S.ob _)
   ·unfold ORel
    have:(em_ objs l)[j]? =none:=List.getElem?_eq_none (by simp [em_];omega)
    rw [this];trivial
  ·obtain ⟨p,h1,h2⟩:=de_ hl hi
   obtain ⟨q,g1,g2⟩:=de_ hl hj
   have:=S.inj p q b h2 g2
   subst this
   have hk:=(List.getElem?_eq_some_iff.mp h1).1
   exact (List.getElem?_inj hk hn).mp (h1.trans g1.symm)
  ·obtain ⟨i,h1,h2⟩:=de_ hl hj
   rcases hm with hm | ⟨q,hq,hf⟩
   ·exact (S.live b ⟨i,h2⟩).1 hm
   ·exact hq (S.inj q i b hf h2▸List.mem_of_getElem? h1)
  ·rcases hb with hb | ⟨i,_,hi⟩
   ·have:=S.mlt b hb;have:=S.size;omega
   ·exact S.flt hi
end
end Km
namespace Km
open Go
set_option linter.unusedVariables false
set_option linter.unusedSimpArgs false
variable {κ:Type} {Ty:κ→Type} {R:Type}
theorem bA_ (g:Nat→Option Nat):∀(l:List Nat) (os objs:am_ κ Ty),(jV_ g objs l os).length=objs.length
  | [],_,_=>by simp [jV_]
  | i::l,[],_=>by simp [jV_]
  | i::l,o::os,objs=>by simp [jV_,bA_ g l os]
theorem lN_ (g:Nat→Option Nat):∀(l:List Nat) (os objs:am_ κ Ty) (i:Nat),i∉l→(jV_ g objs l os)[i]? =objs[i]?
  | [],_,_,_,_=>by simp [jV_]
  | k::l,[],_,_,_=>by simp [jV_]
  | k::l,o::os,objs,i,h=>by
    simp only [List.mem_cons,not_or] at h
    simp only [jV_]
    rw [lN_ g l os _ i h.2,List.getElem?_set_ne (Ne.symm h.1)]
theorem th_ (g:Nat→Option Nat):∀(l:List Nat) (os objs:am_ κ Ty) (j i:Nat) (o:AObj κ Ty),l.Nodup→(∀i∈l,i<objs.length)→l[j]? =some i→os[j]? =some o→(jV_ g objs l os)[i]? =some (reG objs[i]? (kw_ g o))
  | [],_,_,_,_,_,_,_,h,_=>by simp at h
  | k::l,[],_,_,_,_,_,_,_,h=>by simp at h
  | k::l,o::os,objs,0,i,o',hn,hl,h,ho=>by
    simp at h ho;subst h;subst ho
    simp only [jV_]
    have hk:k∉l:=(List.nodup_cons.mp hn).1
    rw [lN_ g l os _ k hk]
    have:=hl k (by simp)
    rw [List.getElem?_set_self this]
  | k::l,o::os,objs,j+1,i,o',hn,hl,h,ho=>by
    simp only [jV_]
    have hki:k≠i:=fun e=>(List.nodup_cons.mp hn).1 (e▸List.mem_of_getElem? (by simpa using h))
    have:=th_ g l os (objs.set k (reG objs[k]? (kw_ g o))) j i o' (List.nodup_cons.mp hn).2 (fun i hi=>by simp;exact hl i (by simp [hi])) (by simpa using h) (by simpa using ho)
    rw [List.getElem?_set_ne hki] at this
    exact this
theorem A5_ (o:AObj κ Ty):reG none o=o:=by cases o<;>rfl
section
variable {P:Program} {C:Cod κ Ty} {T:TypeId→Option (TI κ Ty)}
variable {Mut:Nat→Prop} {Lent:Org κ Ty} {w0 w w':World} {ρ ρ' ρ2:Nat→Loc} {env:Env κ Ty} {objs objs' objs2:am_ κ Ty} {tm:Array Value}
def mD_ (ρ ρ':Nat→Loc) (n:Nat) (l:List Nat):Nat→Loc:=fun i=>match j4_ l i 0 with
  | some j=>ρ' j
  | none=>if i<n then ρ i else ρ' (l.length+(i-n))
def eh_ (objs:am_ κ Ty) (l:List Nat) (o':am_ κ Ty):am_ κ Ty:=jV_ (i9_ objs.length l) objs l o'++(o'.drop l.length).map (kw_ (i9_ objs.length l))
theorem u2_ {l:List Nat} {o':am_ κ Ty} (hn:l.Nodup) (hl:∀i∈l,i<objs.length) (hlen:l.length≤o'.length) (i:Nat):
    (i<objs.length∧i∉l∧(eh_ objs l o')[i]? =objs[i]? ∧mD_ ρ ρ' objs.length l i=ρ i)∨
    (∃j o,o'[j]? =some o∧i9_ objs.length l j=some i∧(eh_ objs l o')[i]? =some (reG objs[i]? (kw_ (i9_ objs.length l) o))∧mD_ ρ ρ' objs.length l i=ρ' j)∨
    (eh_ objs l o')[i]? =none:=by
  by_cases hi:i<objs.length
  ·cases hp:j4_ l i 0 with
   | none=>
     refine .inl ⟨hi,me_ hp, ?_,by simp [mD_,hp,hi]⟩
     unfold eh_
     rw [List.getElem?_append_left (by rw [bA_];exact hi),lN_ _ _ _ _ _ (me_ hp)]
   | some j=>
     obtain ⟨_,h2⟩:=gq_ hp
     simp only [Nat.sub_zero] at h2
     have hj:=(List.getElem?_eq_some_iff.mp h2).1
     have ho:o'[j]? =some (o'[j]'(by omega)):=List.getElem?_eq_getElem _
     refine .inr (.inl ⟨j,_,ho,by simp [i9_,h2], ?_,by simp [mD_,hp]⟩)
     unfold eh_
     rw [List.getElem?_append_left (by rw [bA_];exact hi)]
     exact th_ _ l o' objs j i _ hn hl h2 ho
  ·have hp:j4_ l i 0=none:=by
     cases hp:j4_ l i 0 with
     | none=>rfl
     | some j=>
       obtain ⟨_,h2⟩:=gq_ hp
       simp only [Nat.sub_zero] at h2
       exact absurd (hl i (List.mem_of_getElem? h2)) hi
   by_cases hk:l.length+(i-objs.length)<o'.length
   ·have ho:o'[l.length+(i-objs.length)]? =some (o'[l.length+(i-objs.length)]'hk):=List.getElem?_eq_getElem _
    refine .inr (.inl ⟨_,_,ho, ?_, ?_,by simp [mD_,hp,hi]⟩)
    ·have:l[l.length+(i-objs.length)]? =none:=List.getElem?_eq_none (by omega)
     simp only [i9_,this];congr 1;omega
    ·unfold eh_
     rw [List.getElem?_append_right (by rw [bA_];omega),bA_,List.getElem?_map,List.getElem?_drop,ho,List.getElem?_eq_none (l:=objs) (by omega),A5_];rfl
   ·refine .inr (.inr ?_)
    refine List.getElem?_eq_none ?_
    simp [eh_,bA_];omega
theorem AW_ {l:List Nat} {o':am_ κ Ty} (hn:l.Nodup) (hl:∀i∈l,i<objs.length) (hlen:l.length≤o'.length):Ren (i9_ objs.length l) ρ' o' (mD_ ρ ρ' objs.length l) (eh_ objs l o'):=by
  intro j i o hg ho
  have hjo:=(List.getElem?_eq_some_iff.mp ho).1
  unfold i9_ at hg
  split at hg
  ·rename_i i' hj
   cases hg
   refine ⟨?_,by simp [mD_,sI_ hn hj]⟩
   unfold eh_
   rw [List.getElem?_append_left (by rw [bA_];exact hl _ (List.mem_of_getElem? hj))]
   obtain ⟨n,e⟩:=zo_ objs[i]? (kw_ (i9_ objs.length l) o)
   exact ⟨n,e▸th_ _ l o' objs j i _ hn hl hj ho⟩
  ·rename_i hj
   have hj':l.length≤j:=by
     rcases Nat.lt_or_ge j l.length with h | h
     ·rw [List.getElem?_eq_getElem h] at hj;cases hj
     ·exact h
   cases hg
   have hp:j4_ l (objs.length+(j-l.length)) 0=none:=by
     cases hp:j4_ l (objs.length+(j-l.length)) 0 with
     | none=>rfl
     | some q=>
       obtain ⟨_,h2⟩:=gq_ hp
       simp only [Nat.sub_zero] at h2
       have:=hl _ (List.mem_of_getElem? h2);omega
   refine ⟨?_, ?_⟩
   ·unfold eh_
    rw [List.getElem?_append_right (by rw [bA_];omega),bA_,List.getElem?_map,List.getElem?_drop]
    rw [show l.length+(objs.length+(j-l.length)-objs.length)=j by omega,ho]
    obtain ⟨n,e⟩:=iW_ (kw_ (i9_ objs.length l) o)
    exact ⟨n,by rw [←e];rfl⟩
   ·simp only [mD_,hp]
    rw [if_neg (by omega)]
    congr 1;omega
theorem zO_ (HC:aO_ C) (S:SRel C Mut Lent w0 ρ env objs tm w) {l:List Nat} (hn:l.Nodup) (hl:∀i∈l,i<objs.length) {o':am_ κ Ty}
    (S':SRel C (fi_ Mut ρ objs l) ⟨fQ_ ρ l,em_ objs l⟩ w ρ' [] o' #[] w') (hs:∀o∈o',tw_ C o=true):
    SRel C Mut Lent w0 (mD_ ρ ρ' objs.length l) env (eh_ objs l o') tm w'∧
      ∀(v:AV κ Ty) (u:Value),(∀vs,v= .tup vs→vs.all l4_=true)→((∀vs,v≠ .tup vs)→l4_ v=true)→VRel C w' (fi_ Mut ρ objs l) ρ' o' v u→VRel C w' Mut (mD_ ρ ρ' objs.length l) (eh_ objs l o') (o5_ (i9_ objs.length l) v) u:=by
  have hlen:l.length≤o'.length:=by have:=S'.len;simpa [em_] using this
  have G:=AW_ (ρ:=ρ) (ρ':=ρ') hn hl hlen
  have cs:=u2_ (ρ:=ρ) (ρ':=ρ') hn hl hlen
  have foot:∀i b,ah_ (mD_ ρ ρ' objs.length l) (eh_ objs l o') i b→(i<objs.length∧i∉l∧ah_ ρ objs i b)∨(∃j,i9_ objs.length l j=some i∧ah_ ρ' o' j b):=by
    intro i b h
    rcases cs i with ⟨h1,h2,h3,h4⟩ | ⟨j,o,h1,h2,h3,h4⟩ | h1
    ·refine .inl ⟨h1,h2, ?_⟩
     unfold ah_ at h⊢;rw [h3,h4] at h;exact h
    ·exact .inr ⟨j,h2,nb_ h1 (by obtain ⟨n,e⟩:=zo_ objs[i]? (kw_ (i9_ objs.length l) o);exact ⟨n,e▸h3⟩) h4 h⟩
    ·unfold ah_ at h;rw [h1] at h;exact h.elim
  have hX:n1_ false (fi_ Mut ρ objs l) ρ' o' Mut (mD_ ρ ρ' objs.length l) (eh_ objs l o'):=by
    intro b k hb h h'
    have hb:b=false:=by cases b<;>simp_all
    subst hb
    rcases h' with ⟨i,hi⟩ | ⟨_,hm⟩
    ·rcases foot i k hi with ⟨_,h2,h3⟩ | ⟨j,_,h3⟩
     ·exact h (.inr ⟨rfl, .inr ⟨i,h2,h3⟩⟩)
     ·exact h (.inl ⟨j,h3⟩)
    ·exact h (.inr ⟨rfl, .inl hm⟩)
  have lfoot:∀b,aN_ (fQ_ ρ l) (em_ objs l) b→aN_ ρ objs b:=fun b ⟨j,hj⟩=>by
    obtain ⟨i,_,h⟩:=de_ hl hj;exact ⟨i,h⟩
  have W:WStep w w' (aN_ ρ objs) (aN_ (mD_ ρ ρ' objs.length l) (eh_ objs l o')):=by
    refine ⟨fun b hb hf=>S'.frame b hb (fun h=>hf (lfoot b h)),S'.size,fun b ⟨i,hi⟩=> ?_⟩
    rcases foot i b hi with ⟨_,_,h⟩ | ⟨j,_,h⟩
    ·exact .inl ⟨i,h⟩
    ·rcases (S'.live b ⟨j,h⟩).2 with h | h
     ·exact .inl (lfoot b h)
     ·exact .inr h
  have hcm:∀i,Compat ρ objs (mD_ ρ ρ' objs.length l) (eh_ objs l o') i:=by
    intro i
    by_cases hi:i<objs.length
    ·rcases cs i with ⟨h1,h2,h3,h4⟩ | ⟨j,o,h1,h2,h3,h4⟩ | h1
     ·exact Compat.of_eq (fun _=>h3) (fun _=>h4)
     ·
       have hj:l[j]? =some i:=by
         unfold i9_ at h2
         split at h2
         ·rename_i i' hj;cases h2;exact hj
         ·cases h2;omega
       have hc:=S'.comp j
       have hjl:=(List.getElem?_eq_some_iff.mp hj).1
       have hlo:(em_ objs l)[j]? =some (kw_ (j4_ l · 0) objs[i]):=by
         simp only [em_,List.getElem?_map,hj,Option.map_some,List.getElem?_eq_getElem hi]
       have hlρ:fQ_ ρ l j=ρ i:=by simp [fQ_,List.getD,hj]
       have gone:r9_ o' j→r9_ (eh_ objs l o') i:=fun ⟨e1,e2,e3,e4⟩=>by
         unfold e5_ at e1;unfold eR_ at e2;unfold r4_ at e3;unfold jJ_ at e4
         rw [h1] at e1 e2 e3 e4
         cases o with
         | dead=>exact aD_ h3
         | box cs=>cases e1
         | sl t xs=>cases e2
         | mp k v es hh=>cases e3
         | rw t xs g hh=>cases e4
         | rp t xs n=>cases e4
       have hcw:=hc
       replace hc:(∀t xs g ho,(em_ objs l)[j]? ≠some (.rw t xs g ho))→Compat (fQ_ ρ l) (em_ objs l) ρ' o' j:=fun hno=>by
         unfold CompW at hc
         split at hc
         ·rename_i e;exact absurd e (hno _ _ _ _)
         ·exact hc
       unfold Compat at hc⊢
       unfold CompW at hcw
       rw [List.getElem?_eq_getElem hi] at h3⊢
       simp only [hlo] at hc hcw
       cases ho:objs[i] with
       | dead=>
         simp only [ho,kw_] at hc⊢
         exact gone (hc (by simp))
       | box cs'=>
         simp only [ho,kw_] at hc⊢
         rcases hc (by simp) with ⟨cs2,e1,e2⟩ | hc
         ·rw [h1] at e1;cases e1
          exact .inl ⟨_,h3,by rw [h4,e2,hlρ]⟩
         ·exact .inr (gone hc)
       | sl t xs=>
         simp only [ho,kw_] at hc⊢
         rcases hc (by simp) with ⟨ys,e1,e2,e3⟩ | hc
         ·rw [h1] at e1;cases e1
          exact .inl ⟨_,h3,e2,by rw [h4,e3,hlρ]⟩
         ·exact .inr (gone hc)
       | mp k v es hh=>
         simp only [ho,kw_] at hc⊢
         rcases hc (by simp) with ⟨es',hh',e1,e2⟩ | hc
         ·rw [h1] at e1;cases e1
          exact .inl ⟨es',_,h3,by rw [h4,e2,hlρ]⟩
         ·exact .inr (gone hc)
       | rw t xs g hh=>
         cases hh with
         | some p=>
           simp only [ho,kw_] at hc⊢
           exact .inr (gone (hc (by simp)))
         | none=>
           simp only [ho,kw_] at hcw⊢
           rcases hcw with ⟨ys,g',h',e1,e2,e3⟩ | hcw
           ·rw [h1] at e1;cases e1
            cases h' with
            | none=>exact .inl ⟨ys,g+1,none,by rw [h3,ho];rfl,e2,by rw [h4,←hlρ];exact e3,by omega,fun h=>by omega⟩
            | some p=>exact .inr (aD_ h3)
           ·exact .inr (gone hcw)
       | rp t xs n=>
         simp only [ho,kw_] at hc⊢
         rcases hc (by simp) with ⟨ys,e1,e2,e3⟩ | hc
         ·rcases dz_ e1 with ⟨g',h',e5⟩ | ⟨n',e5⟩
          ·rw [h1] at e5;cases e5
           cases h' with
           | none=>exact .inl ⟨ys,bb_ (by rw [h3,ho];rfl),e2,by rw [h4,←hlρ];exact e3⟩
           | some p=>exact .inr (aD_ h3)
          ·rw [h1] at e5;cases e5
           exact .inl ⟨ys,c0_ h3,e2,by rw [h4,←hlρ];exact e3⟩
         ·exact .inr (gone hc)
     ·have:(eh_ objs l o').length=objs.length+(o'.length-l.length):=by simp [eh_,bA_]
      rw [List.getElem?_eq_none_iff] at h1;omega
    ·unfold Compat
     rw [List.getElem?_eq_none (by omega)];trivial
  have hlen2:objs.length≤(eh_ objs l o').length:=by simp [eh_,bA_]
  refine ⟨S.step W hlen2 hcm (fun i=> ?_) (fun i j b hi hj=> ?_) S'.os S'.tape S'.output,fun v u h1 h2 h=>o8_ HC G hX (fun _=>h1) (fun _=>h2) h⟩
  ·rcases cs i with ⟨h1,h2,h3,h4⟩ | ⟨j,o,h1,h2,h3,h4⟩ | h1
   ·refine ORel.step W hlen2 hcm (S.ob i) h3 h4 (fun b hb=>S'.frame b (S.flt hb) (fun ⟨j,hj⟩=> ?_))
    obtain ⟨p,g1,g2⟩:=de_ hl hj
    exact h2 (S.inj i p b hb g2▸List.mem_of_getElem? g1)
   ·exact ORel.ren HC G hX h2 h1 (fun _=>hs o (List.mem_of_getElem? h1)) (S'.ob j)
   ·unfold ORel;rw [h1];trivial
  ·rcases foot i b hi with ⟨h1,h2,h3⟩ | ⟨p,h2,h3⟩<;>rcases foot j b hj with ⟨g1,g2,g3⟩ | ⟨q,g2,g3⟩
   ·exact S.inj i j b h3 g3
   ·exact absurd (.inr ⟨i,h2,h3⟩) (S'.live b ⟨q,g3⟩).1
   ·exact absurd (.inr ⟨j,g2,g3⟩) (S'.live b ⟨p,h3⟩).1
   ·have:=S'.inj p q b h3 g3
    subst this
    rw [h2] at g2;cases g2;rfl
end
end Km
namespace Km
open Go
set_option linter.unusedVariables false
set_option linter.unusedSimpArgs false
variable {κ:Type} {Ty:κ→Type} {R:Type}
section
variable {P:Program} {C:Cod κ Ty} {T:TypeId→Option (TI κ Ty)}
variable {Mut:Nat→Prop} {Lent:Org κ Ty} {w0 w w':World} {ρ ρ' ρ2:Nat→Loc} {env:Env κ Ty} {objs objs' objs2:am_ κ Ty} {tm:Array Value}
theorem hS_ {v:AV κ Ty} {u:Value} (h:VRel C w Mut ρ objs v u):∀i∈d9_ v,i<objs.length:=by
  intro i hi
  cases h<;>simp only [d9_,List.mem_singleton,List.not_mem_nil] at hi
  case ref h1=>subst hi;exact (List.getElem?_eq_some_iff.mp h1).1
  case refd=>subst hi;assumption
  case eref h1 h2=>subst hi;exact (List.getElem?_eq_some_iff.mp h1).1
  case erefd=>subst hi;assumption
  case own h1 h2=>subst hi;exact (List.getElem?_eq_some_iff.mp h1).1
  case ownd=>subst hi;assumption
  case sub h1 _ _ _ _ _=>subst hi;exact (List.getElem?_eq_some_iff.mp h1).1
  case subd=>subst hi;assumption
  case mapv h1=>subst hi;exact (List.getElem?_eq_some_iff.mp h1).1
  case mapd=>subst hi;assumption
  case rwv h1 _=>subst hi;exact vn_ h1
  case rwvd=>subst hi;assumption
  case rwp h1 _=>subst hi;exact vn_ h1
  case rwpd=>subst hi;assumption
  case xr e _ _ _=>subst hi;exact (List.getElem?_eq_some_iff.mp e).1
  case xrd=>subst hi;assumption
theorem Aj_ {v:AV κ Ty} {u:Value} (h:VRel C w Mut ρ objs v u):∀i∈hg_ v,i<objs.length:=by
  by_cases hv:∃cs,v= .agg cs
  ·obtain ⟨cs,rfl⟩:=hv
   intro i hi
   simp only [hg_,List.mem_flatMap] at hi
   obtain ⟨c,hc,hi⟩:=hi
   cases h with
   | agg hl hcell hrel=>
     rename_i us
     obtain ⟨j,hj⟩:=List.getElem?_of_mem hc
     have hjl:=(List.getElem?_eq_some_iff.mp hj).1
     exact hS_ (hrel j c us[j] hj (List.getElem?_eq_getElem (by omega))) i hi
  ·have e:hg_ v=d9_ v:=by cases v<;>first | rfl | exact absurd ⟨_,rfl⟩ hv
   rw [e];exact hS_ h
theorem k8_ {v:AV κ Ty} {u:Value} (h:VRel C w Mut ρ objs v u):∀i∈bs_ v,i<objs.length:=by
  by_cases hv:∃cs,v= .tup cs
  ·obtain ⟨cs,rfl⟩:=hv
   intro i hi
   simp only [bs_,List.mem_flatMap] at hi
   obtain ⟨c,hc,hi⟩:=hi
   cases h with
   | tup hl hrel=>
     rename_i us
     obtain ⟨j,hj⟩:=List.getElem?_of_mem hc
     have hjl:=(List.getElem?_eq_some_iff.mp hj).1
     exact Aj_ (hrel j c us[j] hj (List.getElem?_eq_getElem (by omega))) i hi
  ·have e:bs_ v=hg_ v:=by cases v<;>first | rfl | exact absurd ⟨_,rfl⟩ hv
   rw [e];exact Aj_ h
theorem BU_ {i:Nat} {o:AObj κ Ty} (ho:objs[i]? =some o) (h:ORel C w Mut ρ objs i):∀k∈vZ_ o,k<objs.length:=by
  intro k hk
  unfold ORel at h
  rw [ho] at h
  cases o with
  | dead=>simp [vZ_] at hk
  | sl t xs=>simp [vZ_] at hk
  | rw t xs g hh=>simp [vZ_] at hk
  | rp t xs n=>simp [vZ_] at hk
  | mp k' v es hh=>
    obtain ⟨mes,h⟩:=h
    simp only [vZ_] at hk
    split at hk
    ·rename_i i' j
     simp only [List.mem_singleton] at hk
     subst hk
     have hi:=h.hlt _ _ rfl
     have hm:mes[i']? =some (mes[i']'(by rw [h.size];exact hi)):=Array.getElem?_eq_getElem _
     exact hS_ ((h.hole _ _ _ rfl hm).2 _ rfl) _ (by simp [d9_])
    ·simp at hk
  | box cs=>
    simp only [vZ_,List.mem_flatMap] at hk
    obtain ⟨c,hc,hk⟩:=hk
    obtain ⟨j,hj⟩:=List.getElem?_of_mem hc
    obtain ⟨v,_,_,h3,_⟩:=h.2 j c hj
    exact hS_ h3 k hk
theorem w2_ (S:SRel C Mut Lent w0 ρ env objs tm w) {acc:List Nat} (hn:acc.Nodup) (h:∀i∈acc,i<objs.length):∀i∈jS_ objs acc,i<objs.length:=by
  have step:∀(l:List Nat),∀i∈l.flatMap (fun i=>match objs[i]? with | some o=>vZ_ o | none=>[]),i<objs.length:=by
    intro l i hi
    simp only [List.mem_flatMap] at hi
    obtain ⟨k,_,hi⟩:=hi
    split at hi
    ·rename_i o ho;exact BU_ ho (S.ob k) i hi
    ·simp at hi
  intro i hi
  unfold jS_ at hi
  rw [o1_ (fk_ hn)] at hi
  rcases hi with hi | hi
  ·rw [o1_ hn] at hi
   rcases hi with hi | hi
   ·exact h i hi
   ·exact step _ i hi
  ·exact step _ i hi
theorem lR_:∀(l m:List Nat),disj l m=true↔∀i∈l,i∉m
  | [],m=>by simp [disj]
  | k::l,m=>by
    simp only [disj]
    split
    ·rename_i h;have:=(eb_ k m).mp h;simp [this]
    ·rename_i h
     have:k∉m:=fun hm=>by rw [(eb_ k m).mpr hm] at h;cases h
     rw [lR_ l m];simp [this]
theorem A8_ (HC:aO_ C) (S:SRel C Mut Lent w0 ρ env objs tm w) {l:List Nat} (hl:∀i∈l,i<objs.length) {x:AV κ Ty} {u:Value} {t:κ} {xs:List (Ty t)} (hx:VRel C w Mut ρ objs x u) (h:hC_ objs x=some ⟨t,xs⟩)
    (hb:∀i∈yF_ x,i∉l):VRel C w (fi_ Mut ρ objs l) (fQ_ ρ l) (em_ objs l) (.inl true t xs) u:=by
  have hX:=ho_ (Mut:=Mut) (ρ:=ρ) hl
  obtain ⟨A,c,blk,off,hu,hle,hA,hrow⟩:=hu_ (a:=⟨tm,[]⟩) HC S hx h
  rw [hu]
  refine .inl (blk:=blk) (off:=off) (vals:=fun i j=>(w.cell? (at' blk (off+i*C.sz t+j))).getD Go.undef) (fun h=>by cases h) hle (fun hne=> ?_) (fun i y j cl h1 h2=> ?_) (fun i y j cl h1 h2=> ?_)
  ·obtain ⟨a1,a2⟩:=hA hne
   refine ⟨a1,a2,fun hXs=> ?_⟩
   rcases hXs with ⟨j,hj⟩ | ⟨hf,_⟩
   ·obtain ⟨i,g1,g2⟩:=de_ hl hj
    cases x<;>simp only [hC_] at h
    case nil t'=>cases h;exact hne rfl
    case inl b t' ys=>
      cases h
      cases hx with
      | inl hb' hc hA' hcell hrel=>
        obtain ⟨e1,_,e3⟩:=hA' hne
        simp only [Value.slice.injEq] at hu
        rw [hu.1,a1] at e1
        simp only [Option.some.injEq,at',Addr.mk.injEq] at e1
        exact e3 (.inl ⟨i,e1.1▸g2⟩)
    case own id=>
      have hsl:=a7_ h
      cases hx with
      | own k1 k2=>
        have ho:=S.ob id
        simp only [ORel,hsl] at ho
        have hc:(ρ id).cap≠0:=by have:=ho.1;have:=List.length_pos_iff.mpr hne;omega
        have e1:=k2 hc
        simp only [Value.slice.injEq] at hu
        rw [hu.1,a1] at e1
        simp only [Option.some.injEq,at',Addr.mk.injEq] at e1
        have:=S.inj i id blk g2 (e1.1▸bD_ hsl hc)
        subst this
        exact hb i (by simp [yF_]) (List.mem_of_getElem? g1)
      | ownd _ _ k1=>rw [k1] at h;cases h
    case sub id lo hi=>
      split at h
      ·rename_i t' ys hsl0
       cases h
       have hsl:=a7_ hsl0
       cases hx with
       | sub k1 hlo hhi hc hcap hA'=>
         rw [hsl] at k1;cases k1
         have hlen:=dj_ ys lo hi hhi
         have hpos:=List.length_pos_iff.mpr hne
         have e1:=hA' (by omega)
         simp only [Value.slice.injEq] at hu
         rw [hu.1,a1] at e1
         simp only [Option.some.injEq,at',Addr.mk.injEq] at e1
         have:=S.inj i id blk g2 (e1.1▸bD_ hsl (by omega))
         subst this
         exact hb i (by simp [yF_]) (List.mem_of_getElem? g1)
       | subd _ _ k1=>rw [k1] at hsl0;cases hsl0
      ·cases h
    all_goals cases h
   ·cases hf
  ·obtain ⟨v,a1,a2⟩:=hrow i y j cl h1 h2
   rw [a1];rfl
  ·obtain ⟨v,a1,a2⟩:=hrow i y j cl h1 h2
   rw [a1]
   refine g6_ HC hX a2 ?_
   rcases HC.deep t y cl (ex_ HC h2) with ⟨q,rfl⟩ | ⟨s,ys,rfl,_⟩
   ·exact .inl ⟨_,rfl⟩
   ·exact .inr ⟨_,_,_,rfl,fun _=>rfl⟩
theorem Ac_ (HC:aO_ C) (S:SRel C Mut Lent w0 ρ env objs tm w) {l:List Nat} (hl:∀i∈l,i<objs.length) {L:Nat×Nat×Nat} {b:Bool} {s:κ} {ys:List (Ty s)} {v:Value} (h:EntR C w Mut ρ objs L [.inl b s ys] v)
    (hf:L.2.2≠0→∃id,id∉l∧ah_ ρ objs id L.1):VRel C w (fi_ Mut ρ objs l) (fQ_ ρ l) (em_ objs l) (.inl true s ys) v:=by
  have hX:=ho_ (Mut:=Mut) (ρ:=ρ) hl
  obtain ⟨A,rfl,hA,h1,h2,h3,h4⟩:=lY_ h
  refine .inl (blk:=L.1) (off:=L.2.1) (vals:=fun i j=>(w.cell? (at' L.1 (L.2.1+i*C.sz s+j))).getD Go.undef) (fun h=>by cases h) h1 (fun hne=> ?_) (fun i y j cl g1 g2=> ?_) (fun i y j cl g1 g2=> ?_)
  ·have hc:L.2.2≠0:=by have:=List.length_pos_iff.mpr hne;omega
   refine ⟨hA hc,h2 hc,fun hXs=> ?_⟩
   rcases hXs with ⟨j,hj⟩ | ⟨hf,_⟩
   ·obtain ⟨i,g1,g2⟩:=de_ hl hj
    obtain ⟨id,k1,k2⟩:=hf hc
    exact k1 (S.inj i id _ g2 k2▸List.mem_of_getElem? g1)
   ·cases hf
  ·obtain ⟨v,a1,a2⟩:=h3 i y j cl g1 g2
   rw [a1];rfl
  ·obtain ⟨v,a1,a2⟩:=h3 i y j cl g1 g2
   rw [a1]
   refine g6_ HC hX a2 ?_
   rcases HC.deep s y cl (ex_ HC g2) with ⟨q,rfl⟩ | ⟨s',ys',rfl,_⟩
   ·exact .inl ⟨_,rfl⟩
   ·exact .inr ⟨_,_,_,rfl,fun _=>rfl⟩
theorem u6_ (HC:aO_ C) (S:SRel C Mut Lent w0 ρ env objs tm w) {l:List Nat} (hl:∀i∈l,i<objs.length) {x:AV κ Ty} {u:Value} {t:κ} {xs:List (Ty t)} (hx:VRel C w Mut ρ objs x u) (h:rowsX objs x=some ⟨t,xs⟩)
    (hb:∀i∈yF_ x,i∉l):VRel C w (fi_ Mut ρ objs l) (fQ_ ρ l) (em_ objs l) (.inl true t xs) u:=by
  unfold rowsX at h
  split at h
  ·rename_i id
   split at h
   ·rename_i t' xs' g e
    cases h
    have ho:=S.ob id
    simp only [ORel,e] at ho
    cases hx with
    | rwv h1 hA=>
      rw [bb_ e] at h1;cases h1
      have hF:∀b,iO_ (ρ id) b→ah_ ρ objs id b:=fun b hb=>by simp only [ah_,e];exact hb
      refine .inl (blk:=(ρ id).block) (off:=(ρ id).off) (vals:=fun i j=>(w.cell? (at' (ρ id).block ((ρ id).off+i*C.sz t+j))).getD Go.undef) (fun h=>by cases h) ho.len (fun hne=> ?_) (fun i y j cl g1 g2=> ?_) (fun i y j cl g1 g2=> ?_)
      ·have hc:(ρ id).cap≠0:=by have:=List.length_pos_iff.mpr hne;have:=ho.len;omega
       refine ⟨hA hc,ho.blk hc,fun hXs=> ?_⟩
       rcases hXs with ⟨j,hj⟩ | ⟨hf,_⟩
       ·obtain ⟨i,g1,g2⟩:=de_ hl hj
        have:=S.inj i id _ g2 (hF _ (.inl ⟨hc,rfl⟩))
        subst this
        exact hb i (by simp [yF_]) (List.mem_of_getElem? g1)
       ·cases hf
      ·obtain ⟨v,a1,a2⟩:=ho.cell i y j cl g1 g2
       rw [a1];rfl
      ·obtain ⟨v,a1,a2⟩:=ho.cell i y j cl g1 g2
       rw [a1]
       have a2:EntR C w Mut ρ objs ((ρ id).sub (i*C.sz t+j)) [cl] v:=a2
       rcases HC.deep t y cl (ex_ HC g2) with ⟨q,rfl⟩ | ⟨s',ys',rfl,_⟩
       ·obtain ⟨e1,e2,_⟩:=tu_ a2
        show VRel C w _ _ _ _ v
        rw [e1];exact .lit e2
       ·rw [HC.xbor t ho.xcl] at a2⊢
        exact Ac_ HC S hl a2 fun hc=>⟨id,hb id (by simp [yF_]),hF _ (.inr ⟨_,hc,rfl⟩)⟩
    | rwvd hcl hin h1=>rw [dL_ (bb_ e)] at h1;cases h1
   ·cases h
  ·rename_i id g i j t' xs'
   split at h
   ·rename_i s rows g' e
    split at h
    ·rename_i hg
     cases h
     have hg:=Nat.eq_of_beq_eq_true hg
     have ho:=S.ob id
     simp only [ORel,e] at ho
     cases hx with
     | xr hcl e' hgg hv=>
       rw [e] at e';cases e'
       obtain ⟨b,x,A,k1,k2,rfl,k4⟩:=hv hg rfl
       obtain ⟨v,a1,a2⟩:=ho.cell i x j _ k1 k2
       have a2:EntR C w Mut ρ objs ((ρ id).sub (i*C.sz s+j)) [.inl b t xs] v:=a2
       obtain ⟨A',_,_,a3⟩:=lY_ a2
       exact Ac_ (b:=b) HC S hl ⟨A,rfl,k4,a3⟩ fun hc=>⟨id,hb id (by simp [yF_]),by simp only [ah_,e];exact .inr ⟨_,hc,rfl⟩⟩
     | xrd hcl hin h1=>rw [dL_ (bb_ e)] at h1;cases h1
    ·cases h
   ·cases h
  ·exact A8_ HC S hl hx h hb
theorem Dl_ (HC:aO_ C) {b:Bool} {s t:κ} {xs:List (Ty s)} {ys:List (Ty t)} {u:Value} (hT:FE_ C true s xs t ys) (h:VRel C w Mut ρ objs (.inl b s xs) u):VRel C w Mut ρ objs (.inl true t ys) u:=by
  obtain ⟨h1,h2,h3⟩:=hT
  cases h with
  | @inl _ _ _ A c blk off vals hb hc hA hcell hrel=>
    rw [←h2]
    have wk:∀{b0:Bool} {s':κ} {zs:List (Ty s')} {v:Value},VRel C w Mut ρ objs (.inl b0 s' zs) v→VRel C w Mut ρ objs (.inl true s' zs) v:=fun h=>by
      cases h with
      | inl hb hc hA hcell hrel=>exact .inl (fun h=>by cases h) hc (fun hne=>⟨(hA hne).1,(hA hne).2.1,fun hx=>(hA hne).2.2 (hx.elim .inl fun h=>by cases h.1)⟩) hcell hrel
    have old:∀i y,ys[i]? =some y→∃x,xs[i]? =some x:=fun i y hy=>by
      have:=(List.getElem?_eq_some_iff.mp hy).1
      exact ⟨_,List.getElem?_eq_getElem (by omega)⟩
    refine .inl (blk:=blk) (off:=off) (vals:=vals) (fun h=>by cases h) (by omega) (fun hne=> ?_) (fun i y j cl hy hj=> ?_) (fun i y j cl hy hj=> ?_)
    ·have hne':xs≠[]:=fun e=>hne (List.length_eq_zero_iff.mp (by rw [h2,e];rfl))
     exact ⟨(hA hne').1,(hA hne').2.1,fun hx=>(hA hne').2.2 (hx.elim .inl fun h=>by cases h.1)⟩
    ·obtain ⟨x,hx⟩:=old i y hy
     obtain ⟨c0,hc0,_⟩:=h3 i x y hx hy j cl hj
     rw [h1];exact hcell i x j c0 hx hc0
    ·obtain ⟨x,hx⟩:=old i y hy
     obtain ⟨c0,hc0,hh⟩:=h3 i x y hx hy j cl hj
     have hr:=hrel i x j c0 hx hc0
     rcases hh with ⟨v,rfl,rfl⟩ | ⟨b0,s',zs,rfl,rfl⟩
     ·exact hr
     ·exact wk hr
theorem CO_ (HC:aO_ C) {t:κ} {xs:List (Ty t)} {u:Value} (h:VRel C w Mut ρ objs (.inl true t xs) u):VRel C w Mut ρ objs (upV C t xs) u:=by
  unfold upV
  split
  ·rename_i e;exact Dl_ HC (HC.up _ _ _ _ e) h
  ·exact h
theorem s2_ (C:Cod κ Ty) (t:κ) (xs:List (Ty t)):∃(t':κ) (ys:List (Ty t')),upV C t xs= .inl true t' ys:=by
  unfold upV;split<;>exact ⟨_,_,rfl⟩
theorem xl_ (HC:aO_ C) (S:SRel C Mut Lent w0 ρ env objs tm w) {l:List Nat} (hn:l.Nodup) (hl:∀i∈l,i<objs.length) (m:q4_) {x:AV κ Ty} {u:Value} (hx:VRel C w Mut ρ objs x u) (hb:m= .bo∨m= .bu→∀i∈yF_ x,i∉l):
    VRel C w (fi_ Mut ρ objs l) (fQ_ ρ l) (em_ objs l) (np_ (j4_ l · 0) (q8_ C objs m x)) u:=by
  have hr:VRel C w (fi_ Mut ρ objs l) (fQ_ ρ l) (em_ objs l) (np_ (j4_ l · 0) x) u:=lC_ HC (lH_ ρ objs l) (ho_ hl) (fun h=>by cases h) hx
  cases m with
  | mv=>exact hr
  | pe=>exact hr
  | bo=>
    simp only [q8_]
    split
    ·rename_i t xs h
     exact u6_ HC S hl hx h (hb (.inl rfl))
    ·exact hr
  | gv=>exact hr
  | bu=>
    simp only [q8_]
    split
    ·rename_i t xs h
     obtain ⟨t',ys,e⟩:=s2_ C t xs
     have:=CO_ HC (u6_ HC S hl hx h (hb (.inr rfl)))
     rw [e] at this⊢
     exact this
    ·exact hr
theorem t5_ (HC:aO_ C) (S:SRel C Mut Lent w0 ρ env objs tm w) {l:List Nat} (hn:l.Nodup) (hl:∀i∈l,i<objs.length) (m:q4_) {x:AV κ Ty} {u:Value} (hx:VRel C w Mut ρ objs x u) (hb:∀i∈Dg_ m x,i∉l):
    VRel C w (fi_ Mut ρ objs l) (fQ_ ρ l) (em_ objs l) (o5_ (j4_ l · 0) (lf_ C objs m x)) u:=by
  by_cases hv:∃cs,x= .agg cs
  ·obtain ⟨cs,rfl⟩:=hv
   cases hx with
   | agg hle hcell hrel=>
     refine .agg (by simpa using hle) hcell (fun j cl u hj hu=> ?_)
     simp only [List.map_map,List.getElem?_map,Option.map_eq_some_iff,Function.comp] at hj
     obtain ⟨c,hc,rfl⟩:=hj
     refine xl_ HC S hn hl m (hrel j c u hc hu) (fun hm i hi=>hb i ?_)
     rcases hm with rfl | rfl
     ·simp only [Dg_,List.mem_flatMap]
      exact ⟨c,List.mem_of_getElem? hc,hi⟩
     ·simp only [Dg_,List.mem_flatMap]
      exact ⟨c,List.mem_of_getElem? hc,hi⟩
  ·by_cases ht:∃vs,x= .tup vs
   ·obtain ⟨vs,rfl⟩:=ht
    have e:lf_ C objs m (.tup vs)= .tup vs:=by cases m<;>rfl
    rw [e]
    exact o8_ HC (lH_ ρ objs l) (ho_ hl) (fun h=>by cases h) (fun h=>by cases h) hx
   ·have e:lf_ C objs m x=q8_ C objs m x:=by cases x<;>first | rfl | exact absurd ⟨_,rfl⟩ hv
    have e2:o5_ (j4_ l · 0) (q8_ C objs m x)=np_ (j4_ l · 0) (q8_ C objs m x):=by
      cases m<;>simp only [q8_]
      ·cases x<;>first | rfl | exact absurd ⟨_,rfl⟩ hv | exact absurd ⟨_,rfl⟩ ht
      ·split
       ·rfl
       ·cases x<;>first | rfl | exact absurd ⟨_,rfl⟩ hv | exact absurd ⟨_,rfl⟩ ht
      ·cases x<;>first | rfl | exact absurd ⟨_,rfl⟩ hv | exact absurd ⟨_,rfl⟩ ht
      ·cases x<;>first | rfl | exact absurd ⟨_,rfl⟩ hv | exact absurd ⟨_,rfl⟩ ht
      ·split
       ·rename_i t xs _
        obtain ⟨t',ys,e⟩:=s2_ C t xs
        rw [e];rfl
       ·cases x<;>first | rfl | exact absurd ⟨_,rfl⟩ hv | exact absurd ⟨_,rfl⟩ ht
    rw [e,e2]
    refine xl_ HC S hn hl m hx (fun hm i hi=>hb i ?_)
    rcases hm with rfl | rfl<;>cases x<;>first | exact hi | exact absurd ⟨_,rfl⟩ hv
theorem tx_ (HC:aO_ C) (S:SRel C Mut Lent w0 ρ env objs tm w) {l:List Nat} (hn:l.Nodup) (hl:∀i∈l,i<objs.length):∀(xs:List (AV κ Ty)) (ms:List q4_) (us:List Value),us.length=xs.length→
    (∀(j:Nat) (x:AV κ Ty) (u:Value),xs[j]? =some x→us[j]? =some u→VRel C w Mut ρ objs x u)→(∀i∈A6_ xs ms,i∉l)→
    (eJ_ C objs xs ms).length=xs.length∧∀(j:Nat) (x:AV κ Ty) (u:Value),((eJ_ C objs xs ms).map (o5_ (j4_ l · 0)))[j]? =some x→us[j]? =some u→VRel C w (fi_ Mut ρ objs l) (fQ_ ρ l) (em_ objs l) x u
  | [],ms,us,hlen,_,_=>by cases ms<;>exact ⟨rfl,fun j x u h=>by simp [eJ_] at h⟩
  | x::xs,ms,[],hlen,_,_=>by simp at hlen
  | x::xs,m::ms,u::us,hlen,h,hb=>by
    obtain ⟨h1,h2⟩:=tx_ HC S hn hl xs ms us (by simpa using hlen) (fun j y v a b=>h (j+1) y v (by simpa using a) (by simpa using b)) (fun i hi=>hb i (by simp [A6_,hi]))
    refine ⟨by simp [eJ_,h1],fun j y v a b=> ?_⟩
    cases j with
    | zero=>
      simp [eJ_] at a b
      subst a;subst b
      exact t5_ HC S hn hl m (h 0 x _ rfl rfl) (fun i hi=>hb i (by simp [A6_,hi]))
    | succ j=>exact h2 j y v (by simpa [eJ_] using a) (by simpa using b)
  | x::xs,[],u::us,hlen,h,hb=>by
    obtain ⟨h1,h2⟩:=tx_ HC S hn hl xs [] us (by simpa using hlen) (fun j y v a b=>h (j+1) y v (by simpa using a) (by simpa using b)) (fun i hi=>hb i (by simp [A6_,hi]))
    refine ⟨by simp [eJ_,h1],fun j y v a b=> ?_⟩
    cases j with
    | zero=>
      simp [eJ_] at a b
      subst a;subst b
      exact t5_ HC S hn hl .bo (h 0 x _ rfl rfl) (fun i hi=>hb i (by simp [A6_,hi]))
    | succ j=>exact h2 j y v (by simpa [eJ_] using a) (by simpa using b)
theorem Be_ (S:SRel C Mut Lent w0 ρ env objs tm w) (m:q4_) {x:AV κ Ty} {u:Value} (hx:VRel C w Mut ρ objs x u):∀i∈d9_ (q8_ C objs m x),i<objs.length:=by
  cases m with
  | mv=>exact hS_ hx
  | pe=>exact hS_ hx
  | bo=>
    simp only [q8_]
    split
    ·intro i hi;simp [d9_] at hi
    ·exact hS_ hx
  | gv=>exact hS_ hx
  | bu=>
    simp only [q8_]
    split
    ·rename_i t xs _
     obtain ⟨t',ys,e⟩:=s2_ C t xs
     rw [e];intro i hi;simp [d9_] at hi
    ·exact hS_ hx
theorem uj_ (S:SRel C Mut Lent w0 ρ env objs tm w) (m:q4_) {x:AV κ Ty} {u:Value} (hx:VRel C w Mut ρ objs x u):∀i∈bs_ (lf_ C objs m x),i<objs.length:=by
  by_cases hv:∃cs,x= .agg cs
  ·obtain ⟨cs,rfl⟩:=hv
   intro i hi
   simp only [lf_,bs_,hg_,List.mem_flatMap,List.mem_map] at hi
   obtain ⟨c',⟨c,hc,rfl⟩,hi⟩:=hi
   cases hx with
   | agg hle hcell hrel=>
     rename_i us
     obtain ⟨j,hj⟩:=List.getElem?_of_mem hc
     have hjl:=(List.getElem?_eq_some_iff.mp hj).1
     exact Be_ S m (hrel j c us[j] hj (List.getElem?_eq_getElem (by omega))) i hi
  ·have e:lf_ C objs m x=q8_ C objs m x:=by cases x<;>first | rfl | exact absurd ⟨_,rfl⟩ hv
   rw [e]
   cases m with
   | mv=>exact k8_ hx
   | pe=>exact k8_ hx
   | bo=>
     simp only [q8_]
     split
     ·intro i hi;simp [bs_,hg_,d9_] at hi
     ·exact k8_ hx
   | gv=>exact k8_ hx
   | bu=>
     simp only [q8_]
     split
     ·rename_i t xs _
      obtain ⟨t',ys,e⟩:=s2_ C t xs
      rw [e];intro i hi;simp [bs_,hg_,d9_] at hi
     ·exact k8_ hx
theorem qz_ (S:SRel C Mut Lent w0 ρ env objs tm w):∀(xs:List (AV κ Ty)) (ms:List q4_) (us:List Value),us.length=xs.length→
    (∀(j:Nat) (x:AV κ Ty) (u:Value),xs[j]? =some x→us[j]? =some u→VRel C w Mut ρ objs x u)→∀i∈(eJ_ C objs xs ms).flatMap bs_,i<objs.length
  | [],ms,us,_,_=>by cases ms<;>simp [eJ_]
  | x::xs,ms,[],hlen,_=>by simp at hlen
  | x::xs,m::ms,u::us,hlen,h=>by
    intro i hi
    simp only [eJ_,List.flatMap_cons,List.mem_append] at hi
    rcases hi with hi | hi
    ·exact uj_ S m (h 0 x u rfl rfl) i hi
    ·exact qz_ S xs ms us (by simpa using hlen) (fun j y v a b=>h (j+1) y v (by simpa using a) (by simpa using b)) i hi
  | x::xs,[],u::us,hlen,h=>by
    intro i hi
    simp only [eJ_,List.flatMap_cons,List.mem_append] at hi
    rcases hi with hi | hi
    ·exact uj_ S .bo (h 0 x u rfl rfl) i hi
    ·exact qz_ S xs [] us (by simpa using hlen) (fun j y v a b=>h (j+1) y v (by simpa using a) (by simpa using b)) i hi
theorem ws_ (HC:aO_ C) (S:SRel C Mut Lent w0 ρ env objs tm w) {f:FuncId} {Sm:aK_ κ Ty} (hS:SummOk P C f Sm) {xs:List (AV κ Ty)} {us:List Value} (hlen:us.length=xs.length)
    (hx:∀(j:Nat) (x:AV κ Ty) (u:Value),xs[j]? =some x→us[j]? =some u→VRel C w Mut ρ objs x u) {K:AV κ Ty→am_ κ Ty→Option R} {r:R}
    (h:qh_ objs Sm (A6_ xs Sm.modes) (eJ_ C objs xs Sm.modes) K=some r):
    Calls P f us.toArray w fun e w'=>∃v u objs' ρ',e= .returned u∧K v objs'=some r∧SRel C Mut Lent w0 ρ' env objs' tm w'∧VRel C w' Mut ρ' objs' v u:=by
  unfold qh_ at h
  dsimp only at h
  split at h
  ·cases h
  ·rename_i hd
   have hd:=(lR_ _ _).mp hd
   obtain ⟨q,hq,h⟩:=bind_some h
   have hn:(jS_ objs (nw_ [] ((eJ_ C objs xs Sm.modes).flatMap bs_))).Nodup:=qx_ (fk_ List.nodup_nil)
   have hl:∀i∈jS_ objs (nw_ [] ((eJ_ C objs xs Sm.modes).flatMap bs_)),i<objs.length:=w2_ S (fk_ List.nodup_nil) (fun i hi=>by
     rw [o1_ List.nodup_nil] at hi
     rcases hi with hi | hi
     ·simp at hi
     ·exact qz_ S xs Sm.modes us hlen hx i hi)
   generalize jS_ objs (nw_ [] ((eJ_ C objs xs Sm.modes).flatMap bs_))=l at h hd hq hn hl
   obtain ⟨a1,a2⟩:=tx_ HC S hn hl xs Sm.modes us hlen hx hd
   refine (hS.2 _ _ q hq (fi_ Mut ρ objs l) (fQ_ ρ l) us.toArray w (by simp [a1,hlen]) (fun j x u hj hu=>a2 j x u hj (by simpa using hu)) (yl_ HC S hn hl)).mono ?_
   rintro e w' ⟨v,ρ',rfl,h1,h2,h3,h4,h5⟩
   obtain ⟨b1,b2⟩:=zO_ HC S hn hl h2 h3
   exact ⟨_,v,_,_,rfl,h,b1,b2 _ _ h4 h5 h1⟩
end
end Km
namespace Km
open Go
set_option linter.unusedVariables false
set_option linter.unusedSimpArgs false
variable {κ:Type} {Ty:κ→Type} {R:Type}
section
variable {P:Program} {C:Cod κ Ty} {T:TypeId→Option (TI κ Ty)}
variable {Mut:Nat→Prop} {Lent:Org κ Ty} {w0 w w':World} {ρ ρ' ρ2:Nat→Loc} {env:Env κ Ty} {objs objs' objs2:am_ κ Ty} {tm:Array Value}
theorem SRel.takeX1 (HC:aO_ C) (S:SRel C Mut Lent w0 ρ env objs tm w) {id g i j:Nat} {t s:κ} {ys:List (Ty t)} {rows:List (Ty s)} (e:objs[id]? =some (.rw s rows g none)) {u:Value} (hx:VRel C w Mut ρ objs (.xr id g i j t ys) u):
    ∃ρ',SRel C Mut Lent w0 ρ' env (objs.set id (.rw s rows g (some (i,j,objs.length)))++[.sl t ys]) tm w∧(∀v q,VRel C w Mut ρ objs v q→VRel C w Mut ρ' (objs.set id (.rw s rows g (some (i,j,objs.length)))++[.sl t ys]) v q)∧
     VRel C w Mut ρ' (objs.set id (.rw s rows g (some (i,j,objs.length)))++[.sl t ys]) (.own objs.length) u:=by
  have hlt:=(List.getElem?_eq_some_iff.mp e).1
  have ho:=S.ob id
  simp only [ORel,e] at ho
  obtain ⟨b0,x,A,k1,k2,rfl,k4⟩:∃b x A,rows[i]? =some x∧(C.enc s x)[j]? =some (.inl b t ys)∧u= .slice A ys.length ((ρ id).sub (i*C.sz s+j)).2.2∧(((ρ id).sub (i*C.sz s+j)).2.2≠0→A=some (at' ((ρ id).sub (i*C.sz s+j)).1 ((ρ id).sub (i*C.sz s+j)).2.1)):=by
    cases hx with
    | xr hcl e' hgg hv=>rw [e] at e';cases e';exact hv rfl rfl
    | xrd hcl hin h1=>rw [dL_ (bb_ e)] at h1;cases h1
  have hjs:j<C.sz s:=by have:=(List.getElem?_eq_some_iff.mp k2).1;rwa [HC.len] at this
  obtain ⟨v0,c1,c2⟩:=ho.cell i x j _ k1 k2
  have c2:EntR C w Mut ρ objs ((ρ id).sub (i*C.sz s+j)) [.inl b0 t ys] v0:=c2
  obtain ⟨A0,rfl,c3,c4⟩:=lY_ c2
  generalize hL:(ρ id).sub (i*C.sz s+j)=L0 at*
  let sub':Nat→Nat×Nat×Nat:=fun q=>if q=i*C.sz s+j then (0,0,0) else (ρ id).sub q
  let ρ1:=upd ρ id ⟨(ρ id).block,(ρ id).off,(ρ id).cap,sub'⟩
  let ρ':=upd ρ1 objs.length ⟨L0.1,L0.2.1,L0.2.2,noSub⟩
  have r1:ρ' id=⟨(ρ id).block,(ρ id).off,(ρ id).cap,sub'⟩:=(bC_ _ _ _ (by omega)).trans (ay_ _ _ _)
  have r2:ρ' objs.length=⟨L0.1,L0.2.1,L0.2.2,noSub⟩:=ay_ _ _ _
  have r3:∀k,k<objs.length→k≠id→ρ' k=ρ k:=fun k h1 h2=>(bC_ _ _ _ (by omega)).trans (bC_ _ _ _ h2)
  generalize ho1:(AObj.rw s rows g (some (i,j,objs.length)):AObj κ Ty)=o1
  have g1:(objs.set id o1++[.sl t ys])[id]? =some o1:=by rw [List.getElem?_append_left (by simpa using hlt)];simp [hlt]
  have g2:(objs.set id o1++[.sl t ys])[objs.length]? =some (.sl t ys):=by rw [List.getElem?_append_right (by simp)];simp
  have g3:∀k,k<objs.length→k≠id→(objs.set id o1++[AObj.sl t ys])[k]? =objs[k]? :=fun k h1 h2=>by rw [List.getElem?_append_left (by simpa using h1),List.getElem?_set_ne (Ne.symm h2)]
  have g4:∀k,objs.length<k→(objs.set id o1++[AObj.sl t ys])[k]? =none:=fun k h=>List.getElem?_eq_none (by simp;omega)
  have hF:∀b,iO_ (ρ id) b→ah_ ρ objs id b:=fun b hb=>by simp only [ah_,e];exact hb
  have hsub:∀q,(sub' q).2.2≠0→q≠i*C.sz s+j∧((ρ id).sub q).2.2≠0∧sub' q=(ρ id).sub q:=fun q hq=>by
    by_cases hin:q=i*C.sz s+j
    ·have:sub' q=(0,0,0):=if_pos hin
     rw [this] at hq;exact absurd rfl hq
    ·have e:sub' q=(ρ id).sub q:=if_neg hin
     rw [e] at hq;exact ⟨hin,hq,e⟩
  have hft:∀k b,ah_ ρ' (objs.set id o1++[AObj.sl t ys]) k b→(k<objs.length∧ah_ ρ objs k b∧(L0.2.2≠0→b≠L0.1))∨(k=objs.length∧L0.2.2≠0∧b=L0.1∧ah_ ρ objs id b):=fun k b h=>by
    by_cases h1:k=id
    ·subst h1
     unfold ah_ at h
     rw [g1,r1,←ho1] at h
     refine .inl ⟨hlt, ?_⟩
     rcases h with ⟨h1,h2⟩ | ⟨q,h1,h2⟩
     ·refine ⟨hF _ (.inl ⟨h1,h2⟩),fun hc he=> ?_⟩
      exact ho.own _ (by rw [hL];exact hc) (by rw [hL,←he,←h2])
     ·obtain ⟨q1,q2,q3⟩:=hsub q h1
      dsimp only at h2
      rw [q3] at h2
      refine ⟨hF _ (.inr ⟨q,q2,h2⟩),fun hc he=> ?_⟩
      exact q1 (ho.disj _ _ q2 (by rw [hL];exact hc) (by rw [hL,h2,he]))
    ·rcases Nat.lt_trichotomy k objs.length with h2 | h2 | h2
     ·unfold ah_ at h
      rw [g3 k h2 h1,r3 k h2 h1] at h
      refine .inl ⟨h2,h,fun hc he=>h1 (S.inj k id b h (hF _ (.inr ⟨_,by rw [hL];exact hc,by rw [hL];exact he.symm⟩)))⟩
     ·subst h2
      unfold ah_ at h
      rw [g2,r2] at h
      obtain ⟨h2,h3⟩:=h
      exact .inr ⟨rfl,h2,h3.symm,hF _ (.inr ⟨_,by rw [hL];exact h2,by rw [hL];exact h3⟩)⟩
     ·unfold ah_ at h;rw [g4 k h2] at h;exact h.elim
  have W:WStep w w (aN_ ρ objs) (aN_ ρ' (objs.set id o1++[.sl t ys])):=WStep.same fun b ⟨k,hk⟩=>by
    rcases hft k b hk with ⟨_,h,_⟩ | ⟨_,_,_,h⟩
    ·exact ⟨k,h⟩
    ·exact ⟨id,h⟩
  have hlen:objs.length≤(objs.set id o1++[AObj.sl t ys]).length:=by simp
  have hcm:∀k,Compat ρ objs ρ' (objs.set id o1++[.sl t ys]) k:=fun k=>by
    by_cases h1:k=id
    ·subst h1
     unfold Compat
     rw [e]
     exact .inl ⟨rows,g,_,by rw [g1,←ho1],rfl,by rw [r1];exact ⟨rfl,rfl,rfl⟩,Nat.le_refl _,fun _ h=>by cases h⟩
    ·exact Compat.of_eq (fun h=>g3 k h h1) (fun h=>r3 k h h1)
  have hv:∀v q,VRel C w Mut ρ objs v q→VRel C w Mut ρ' (objs.set id o1++[.sl t ys]) v q:=fun v q h=>h.step W hlen hcm
  have hown:∀A',(L0.2.2≠0→A'=some (at' L0.1 L0.2.1))→VRel C w Mut ρ' (objs.set id o1++[.sl t ys]) (.own objs.length) (.slice A' ys.length L0.2.2):=fun A' hA'=>by
    have:=VRel.own (C:=C) (w:=w) (Mut:=Mut) (ρ:=ρ') (A:=A') g2 (by rw [r2];exact hA')
    rw [r2] at this
    exact this
  refine ⟨ρ',S.step W hlen hcm (fun k=> ?_) (fun k k' b hk hk'=> ?_) rfl rfl rfl,hv,hown A k4⟩
  ·by_cases h1:k=id
   ·subst h1
    unfold ORel
    rw [g1,r1,←ho1]
    refine ⟨ho.xcl,ho.len,ho.blk,fun i' x' j' cl hx hj=> ?_,ho.room,fun q hq=> ?_,fun p q hp hq hpq=> ?_,fun q hq=> ?_,fun q hq=> ?_⟩
    ·have hjs':j'<C.sz s:=by have:=(List.getElem?_eq_some_iff.mp hj).1;rwa [HC.len] at this
     obtain ⟨v,a1,a2⟩:=ho.cell i' x' j' cl hx hj
     refine ⟨v,a1, ?_⟩
     dsimp only
     by_cases hij:i'=i∧j'=j
     ·obtain ⟨rfl,rfl⟩:=hij
      have e0:sub' (i'*C.sz s+j')=(0,0,0):=if_pos rfl
      have ek:z5_ (some (i',j',objs.length)) i' j'= .hole objs.length:=by simp [z5_]
      rw [e0,ek]
      rw [c1] at a1;cases a1
      refine ⟨rfl, ?_⟩
      have:=hown A0 c3
      rw [←ho1] at this
      exact this
     ·have hne:i'*C.sz s+j'≠i*C.sz s+j:=by
        by_cases hi:i'=i
        ·subst hi;intro h;exact hij ⟨rfl,by omega⟩
        ·exact w3_ hjs' hjs hi
      have e0:sub' (i'*C.sz s+j')=(ρ k).sub (i'*C.sz s+j'):=if_neg hne
      have ek:z5_ (some (i,j,objs.length)) i' j'= .own:=by
        unfold z5_;dsimp only;rw [if_neg hij]
      rw [e0,ek]
      have a2:EntR C w Mut ρ objs ((ρ k).sub (i'*C.sz s+j')) [cl] v:=a2
      have:=EntR.step W hlen hcm a2 (fun _ _ _=>rfl)
      rw [←ho1] at this
      exact this
    ·exact ho.zero q (hsub q hq).2.1
    ·dsimp only at hpq
     obtain ⟨_,p1,p2⟩:=hsub p hp
     obtain ⟨_,q1,q2⟩:=hsub q hq
     rw [p2,q2] at hpq
     exact ho.disj p q p1 q1 hpq
    ·obtain ⟨_,q1,q2⟩:=hsub q hq
     dsimp only
     rw [q2];exact ho.own q q1
    ·obtain ⟨_,q1,q2⟩:=hsub q hq
     dsimp only
     rw [q2];exact ho.lt q q1
   ·rcases Nat.lt_trichotomy k objs.length with h2 | h2 | h2
    ·exact ORel.step W hlen hcm (S.ob k) (g3 k h2 h1) (r3 k h2 h1) (fun _ _=>rfl)
    ·subst h2
     unfold ORel
     rw [g2,r2]
     exact c4.step W hlen hcm (fun _=>rfl)
    ·unfold ORel;rw [g4 k h2];trivial
  ·rcases hft k b hk with ⟨h1,h2,h3⟩ | ⟨h1,h2,h3,h4⟩<;>rcases hft k' b hk' with ⟨f1,f2,f3⟩ | ⟨f1,f2,f3,f4⟩
   ·exact S.inj k k' b h2 f2
   ·exact absurd f3 (h3 f2)
   ·exact absurd h3 (f3 h2)
   ·omega
theorem wr_ (HC:aO_ C) (S:SRel C Mut Lent w0 ρ env objs tm w) {m id:Nat} {K:am_ κ Ty→Option R} {r:R} (h:uu_ C m id objs K=some r):
    ∃objs' ρ',K objs'=some r∧SRel C Mut Lent w0 ρ' env objs' tm w∧∀v u,VRel C w Mut ρ objs v u→VRel C w Mut ρ' objs' v u:=by
  unfold uu_ at h
  split at h
  ·rename_i s rows g i j n e
   split at h
   ·rename_i t zs hsl
    split at h
    ·cases h
    ·rename_i hc
     simp only [Bool.or_eq_false_iff,Bool.not_eq_false',Bool.and_eq_true] at hc
     have hjs:j<C.sz s:=Nat.blt_eq.mp hc.2.1
     have hne:id≠n:=fun e=>by rw [e,Nat.beq_refl] at hc;cases hc.1
     replace h:=bind_some h
     obtain ⟨x,hx,h⟩:=h
     split at h
     ·rename_i y hdec
      have hsl':=a7_ hsl
      have hlt:=(List.getElem?_eq_some_iff.mp e).1
      have hltn:=(List.getElem?_eq_some_iff.mp hsl').1
      have hilt:=(List.getElem?_eq_some_iff.mp hx).1
      have henc:=HC.dec _ _ _ hdec
      have ho:=S.ob id
      simp only [ORel,e] at ho
      have hn:=S.ob n
      simp only [ORel,hsl'] at hn
      have hcl0:(C.enc s x)[j]? =some ((C.enc s x)[j]'(by rw [HC.len];exact hjs)):=List.getElem?_eq_getElem _
      obtain ⟨v0,c1,c2⟩:=ho.cell i x j _ hx hcl0
      have ek0:z5_ (some (i,j,n)) i j= .hole n:=by simp [z5_]
      rw [ek0] at c2
      obtain ⟨c2,c3⟩:=c2
      generalize hL0:((ρ n).block,(ρ n).off,(ρ n).cap)=L0
      let sub':Nat→Nat×Nat×Nat:=fun q=>if q=i*C.sz s+j then L0 else (ρ id).sub q
      let ρ':=upd ρ id ⟨(ρ id).block,(ρ id).off,(ρ id).cap,sub'⟩
      have r1:ρ' id=⟨(ρ id).block,(ρ id).off,(ρ id).cap,sub'⟩:=ay_ _ _ _
      have r3:∀k,k≠id→ρ' k=ρ k:=fun k h2=>bC_ _ _ _ h2
      generalize ho1:(AObj.rw s (rows.set i y) (g+1) none:AObj κ Ty)=o1 at h
      have g1:((objs.set n .dead).set id o1)[id]? =some o1:=by simp [hlt]
      have g2:((objs.set n .dead).set id o1)[n]? =some .dead:=by rw [List.getElem?_set_ne hne];simp [hltn]
      have g3:∀k,k≠id→k≠n→((objs.set n AObj.dead).set id o1)[k]? =objs[k]? :=fun k h1 h2=>by rw [List.getElem?_set_ne (Ne.symm h1),List.getElem?_set_ne (Ne.symm h2)]
      have hF:∀b,iO_ (ρ id) b→ah_ ρ objs id b:=fun b hb=>by simp only [ah_,e];exact hb
      have hFn:L0.2.2≠0→ah_ ρ objs n L0.1:=fun hc=>by
        rw [←hL0] at hc⊢
        exact bD_ hsl' hc
      have hsub:∀q,(sub' q).2.2≠0→(q=i*C.sz s+j∧L0.2.2≠0∧sub' q=L0)∨(q≠i*C.sz s+j∧((ρ id).sub q).2.2≠0∧sub' q=(ρ id).sub q):=fun q hq=>by
        by_cases hin:q=i*C.sz s+j
        ·have e:sub' q=L0:=if_pos hin
         rw [e] at hq;exact .inl ⟨hin,hq,e⟩
        ·have e:sub' q=(ρ id).sub q:=if_neg hin
         rw [e] at hq;exact .inr ⟨hin,hq,e⟩
      have hft:∀k b,ah_ ρ' ((objs.set n AObj.dead).set id o1) k b→(k≠n∧ah_ ρ objs k b)∨(k=id∧ah_ ρ objs n b):=fun k b h=>by
        by_cases h1:k=id
        ·subst h1
         unfold ah_ at h
         rw [g1,r1,←ho1] at h
         rcases h with h1 | ⟨q,h1,h2⟩
         ·exact .inl ⟨hne,hF _ (.inl h1)⟩
         ·dsimp only at h2
          rcases hsub q h1 with ⟨_,h3,h4⟩ | ⟨_,h3,h4⟩
          ·rw [h4] at h2;exact .inr ⟨rfl,h2▸hFn h3⟩
          ·rw [h4] at h2;exact .inl ⟨hne,hF _ (.inr ⟨q,h3,h2⟩)⟩
        ·by_cases h2:k=n
         ·subst h2;unfold ah_ at h;rw [g2] at h;exact h.elim
         ·unfold ah_ at h
          rw [g3 k h1 h2,r3 k h1] at h
          exact .inl ⟨h2,h⟩
      have W:WStep w w (aN_ ρ objs) (aN_ ρ' ((objs.set n .dead).set id o1)):=WStep.same fun b ⟨k,hk⟩=>by
        rcases hft k b hk with ⟨_,h⟩ | ⟨_,h⟩
        ·exact ⟨k,h⟩
        ·exact ⟨n,h⟩
      have hlen:objs.length≤((objs.set n AObj.dead).set id o1).length:=by simp
      have hcm:∀k,Compat ρ objs ρ' ((objs.set n .dead).set id o1) k:=fun k=>by
        by_cases h1:k=id
        ·subst h1
         unfold Compat
         rw [e]
         exact .inl ⟨rows.set i y,g+1,none,by rw [g1,←ho1],by simp,by rw [r1];exact ⟨rfl,rfl,rfl⟩,by omega,fun h=>by omega⟩
        ·by_cases h2:k=n
         ·subst h2;exact kQ_ g2
         ·exact Compat.of_eq (fun h=>g3 k h1 h2) (fun h=>r3 k h1)
      refine ⟨_,ρ',h,S.step W hlen hcm (fun k=> ?_) (fun k k' b hk hk'=> ?_) rfl rfl rfl,fun v u h=>h.step W hlen hcm⟩
      ·by_cases h1:k=id
       ·subst h1
        unfold ORel
        rw [g1,r1,←ho1]
        have cross:∀q,L0.2.2≠0→((ρ k).sub q).2.2≠0→L0.1≠((ρ k).sub q).1:=fun q h1 h2 he=>hne (S.inj n k _ (hFn h1) (he▸hF _ (.inr ⟨q,h2,rfl⟩))).symm
        have hob:L0.2.2≠0→L0.1≠(ρ k).block:=fun h1 he=>by
          have hcp:(ρ k).cap≠0:=by have:=ho.len;omega
          exact hne (S.inj n k _ (hFn h1) (he▸hF _ (.inl ⟨hcp,rfl⟩))).symm
        refine ⟨ho.xcl,by simpa using ho.len,ho.blk,fun i' x' j' cl hx' hj=> ?_,ho.room,fun q hq=> ?_,fun p q hp hq hpq=> ?_,fun q hq=> ?_,fun q hq=> ?_⟩
        ·have hjs':j'<C.sz s:=by have:=(List.getElem?_eq_some_iff.mp hj).1;rwa [HC.len] at this
         dsimp only
         by_cases hij:i'=i∧j'=j
         ·obtain ⟨rfl,rfl⟩:=hij
          simp only [List.getElem?_set_self hilt,Option.some.injEq] at hx'
          subst hx'
          rw [henc,ct_ _ _ _ _ (by simp [HC.len];omega),if_pos ⟨Nat.le_refl _,by simp⟩] at hj
          simp only [Nat.sub_self,List.getElem?_cons_zero,Option.some.injEq] at hj
          subst hj
          have e0:sub' (i'*C.sz s+j')=L0:=if_pos rfl
          rw [e0]
          refine ⟨v0,c1, ?_⟩
          cases c3 with
          | own q1 q2=>
            rw [hsl'] at q1;cases q1
            rw [←hL0]
            have hs:SlAt C w Mut ρ objs (ρ n).block (ρ n).off (ρ n).cap t zs:=hn
            have:=hs.step W hlen hcm (fun _=>rfl)
            rw [←ho1] at this
            exact ⟨_,rfl,q2,this⟩
          | ownd _ _ q1=>rw [q1] at hsl;cases hsl
         ·have hne':i'*C.sz s+j'≠i*C.sz s+j:=by
            by_cases hi:i'=i
            ·subst hi;intro h;exact hij ⟨rfl,by omega⟩
            ·exact w3_ hjs' hjs hi
          have e0:sub' (i'*C.sz s+j')=(ρ k).sub (i'*C.sz s+j'):=if_neg hne'
          have hold:∃x1,rows[i']? =some x1∧(C.enc s x1)[j']? =some cl:=by
            by_cases hi:i'=i
            ·subst hi
             simp only [List.getElem?_set_self hilt,Option.some.injEq] at hx'
             subst hx'
             rw [henc,ct_ _ _ _ _ (by simp [HC.len];omega),if_neg (by
              simp only [List.length_singleton]
              rintro ⟨q1,q2⟩
              exact hij ⟨rfl,by omega⟩)] at hj
             exact ⟨x,hx,hj⟩
            ·rw [List.getElem?_set_ne (Ne.symm hi)] at hx'
             exact ⟨x',hx',hj⟩
          obtain ⟨x1,hx1,hj1⟩:=hold
          obtain ⟨v,a1,a2⟩:=ho.cell i' x1 j' cl hx1 hj1
          have ek:z5_ (some (i,j,n)) i' j'= .own:=by
            unfold z5_;dsimp only;rw [if_neg hij]
          rw [ek] at a2
          refine ⟨v,a1, ?_⟩
          rw [e0]
          have a2:EntR C w Mut ρ objs ((ρ k).sub (i'*C.sz s+j')) [cl] v:=a2
          have:=EntR.step W hlen hcm a2 (fun _ _ _=>rfl)
          rw [←ho1] at this
          exact this
        ·rw [List.length_set]
         rcases hsub q hq with ⟨rfl,_,_⟩ | ⟨_,h2,_⟩
         ·exact fU_ hilt hjs
         ·exact ho.zero q h2
        ·dsimp only at hpq
         rcases hsub p hp with ⟨p1,p2,p3⟩ | ⟨p1,p2,p3⟩<;>rcases hsub q hq with ⟨q1,q2,q3⟩ | ⟨q1,q2,q3⟩<;>rw [p3,q3] at hpq
         ·omega
         ·exact absurd hpq (cross q p2 q2)
         ·exact absurd hpq.symm (cross p q2 p2)
         ·exact ho.disj p q p2 q2 hpq
        ·dsimp only
         rcases hsub q hq with ⟨_,q2,q3⟩ | ⟨_,q2,q3⟩<;>rw [q3]
         ·exact hob q2
         ·exact ho.own q q2
        ·dsimp only
         rcases hsub q hq with ⟨_,q2,q3⟩ | ⟨_,q2,q3⟩<;>rw [q3]
         ·exact foot_lt (S.ob n) (hFn q2)
         ·exact ho.lt q q2
       ·by_cases h2:k=n
        ·subst h2;unfold ORel;rw [g2];trivial
        ·exact ORel.step W hlen hcm (S.ob k) (g3 k h1 h2) (r3 k h1) (fun _ _=>rfl)
      ·rcases hft k b hk with ⟨h1,h2⟩ | ⟨h1,h2⟩<;>rcases hft k' b hk' with ⟨f1,f2⟩ | ⟨f1,f2⟩
       ·exact S.inj k k' b h2 f2
       ·exact absurd (S.inj k n b h2 f2) h1
       ·exact absurd (S.inj k' n b f2 h2) f1
       ·omega
     ·cases h
   ·cases h
  ·exact ⟨objs,ρ,h,S,fun v u h=>h⟩
theorem nL_ (HC:aO_ C) {m:Nat} {K:am_ κ Ty→Option R} {r:R}:∀(l:List Nat) {ρ:Nat→Loc} {objs:am_ κ Ty},SRel C Mut Lent w0 ρ env objs tm w→jk_ C m l objs K=some r→
    ∃objs' ρ',K objs'=some r∧SRel C Mut Lent w0 ρ' env objs' tm w∧∀v u,VRel C w Mut ρ objs v u→VRel C w Mut ρ' objs' v u
  | [],ρ,objs,S,h=>⟨objs,ρ,h,S,fun v u h=>h⟩
  | n::l,ρ,objs,S,h=>by
    obtain ⟨objs1,ρ1,h1,S1,v1⟩:=wr_ HC S h
    obtain ⟨objs2,ρ2,h2,S2,v2⟩:=nL_ HC l S1 h1
    exact ⟨objs2,ρ2,h2,S2,fun v u h=>v2 v u (v1 v u h)⟩
theorem DE_ (HC:aO_ C) (S:SRel C Mut Lent w0 ρ env objs tm w) {id:Nat} {t t':κ} {xs:List (Ty t)} {ys:List (Ty t')} {g:Nat} {u:Value} (e:objs[id]? =some (.rw t xs g none)) (hd:C.dn t xs=some ⟨t',ys⟩) (hr:VRel C w Mut ρ objs (.rwv id) u):
    VRel C w Mut ρ (objs.set id .dead) (.inl true t' ys) u:=by
  obtain ⟨h1,h2,h3⟩:=HC.dn _ _ _ _ hd
  have ho:=S.ob id
  simp only [ORel,e] at ho
  have hF:∀b,iO_ (ρ id) b→ah_ ρ objs id b:=fun b hb=>by simp only [ah_,e];exact hb
  have hX:∀b0 b,iO_ (ρ id) b→¬Xs Mut ρ (objs.set id .dead) b0 b:=fun b0 b hb hx=>by
    rcases hx with ⟨i,hi⟩ | ⟨_,hm⟩
    ·obtain ⟨g1,g2⟩:=eN_ hi
     exact g1 (S.inj _ _ _ g2 (hF b hb))
    ·exact (S.live _ ⟨id,hF b hb⟩).1 hm
  cases hr with
  | rwv k1 hA=>
    rw [bb_ e] at k1;cases k1
    rw [←h2]
    have old:∀i y,ys[i]? =some y→∃x,xs[i]? =some x:=fun i y hy=>by
      have:=(List.getElem?_eq_some_iff.mp hy).1
      exact ⟨_,List.getElem?_eq_getElem (by omega)⟩
    have hcell:∀i y j cl,ys[i]? =some y→(C.enc t' y)[j]? =some cl→∃v,w.cell? (at' (ρ id).block ((ρ id).off+i*C.sz t'+j))=some v∧VRel C w Mut ρ (objs.set id .dead) cl v:=fun i y j cl hy hj=>by
      obtain ⟨x,hx⟩:=old i y hy
      obtain ⟨c0,hc0,hh⟩:=h3 i x y hx hy j cl hj
      obtain ⟨v,a1,a2⟩:=ho.cell i x j c0 hx hc0
      have a2:EntR C w Mut ρ objs ((ρ id).sub (i*C.sz t+j)) [c0] v:=a2
      refine ⟨v,by rw [h1];exact a1, ?_⟩
      rcases hh with ⟨z,rfl,rfl⟩ | ⟨b0,s',zs,rfl,rfl⟩
      ·obtain ⟨e1,e2,_⟩:=tu_ a2
       rw [e1];exact .lit e2
      ·obtain ⟨A,rfl,q1,q2,q3,q4,q5⟩:=lY_ a2
       refine .inl (blk:=((ρ id).sub (i*C.sz t+j)).1) (off:=((ρ id).sub (i*C.sz t+j)).2.1) (vals:=fun p q=>(w.cell? (at' ((ρ id).sub (i*C.sz t+j)).1 (((ρ id).sub (i*C.sz t+j)).2.1+p*C.sz s'+q))).getD Go.undef)
         (fun _=>HC.xin t x b0 s' zs ho.xcl (ex_ HC hc0)) q2 (fun hne=> ?_) (fun p z q cl' hz hq=> ?_) (fun p z q cl' hz hq=> ?_)
       ·have hc:((ρ id).sub (i*C.sz t+j)).2.2≠0:=by have:=List.length_pos_iff.mpr hne;omega
        exact ⟨q1 hc,q3 hc,hX _ _ (.inr ⟨_,hc,rfl⟩)⟩
       ·obtain ⟨v,b1,b2⟩:=q4 p z q cl' hz hq
        rw [b1];rfl
       ·obtain ⟨v,b1,b2⟩:=q4 p z q cl' hz hq
        rw [b1];exact b2.kill id
    refine .inl (blk:=(ρ id).block) (off:=(ρ id).off) (vals:=fun i j=>(w.cell? (at' (ρ id).block ((ρ id).off+i*C.sz t'+j))).getD Go.undef) (fun h=>by cases h) (by have:=ho.len;omega) (fun hne=> ?_) (fun i y j cl hy hj=> ?_) (fun i y j cl hy hj=> ?_)
    ·have hc:(ρ id).cap≠0:=by have:=List.length_pos_iff.mpr hne;have:=ho.len;omega
     exact ⟨hA hc,ho.blk hc,hX _ _ (.inl ⟨hc,rfl⟩)⟩
    ·obtain ⟨v,a1,a2⟩:=hcell i y j cl hy hj
     rw [a1];rfl
    ·obtain ⟨v,a1,a2⟩:=hcell i y j cl hy hj
     rw [a1];exact a2
  | rwvd hcl hin k1=>rw [dL_ (bb_ e)] at k1;cases k1
theorem kZ_ (HC:aO_ C):∀(cs:List (AV κ Ty)) (us:List Value) {objs:am_ κ Ty},SRel C Mut Lent w0 ρ env objs tm w→us.length=cs.length→
    (∀(j:Nat) (x:AV κ Ty) (u:Value),cs[j]? =some x→us[j]? =some u→VRel C w Mut ρ objs x u)→
    SRel C Mut Lent w0 ρ env (eK_ C objs cs).2 tm w∧(eK_ C objs cs).1.length=cs.length∧(∀v u,VRel C w Mut ρ objs v u→VRel C w Mut ρ (eK_ C objs cs).2 v u)∧
      (∀(j:Nat) (x:AV κ Ty) (u:Value),(eK_ C objs cs).1[j]? =some x→us[j]? =some u→VRel C w Mut ρ (eK_ C objs cs).2 x u)
  | [],us,objs,S,hl,hx=>⟨S,rfl,fun v u h=>h,fun j x u h=>by simp [eK_] at h⟩
  | c::cs,us,objs,S,hl,hx=>by
    obtain ⟨u,us,rfl⟩:∃u us',us=u::us':=by cases us with | nil=>simp at hl | cons u us=>exact ⟨u,us,rfl⟩
    have go:∀(objs1:am_ κ Ty) (c1:AV κ Ty),SRel C Mut Lent w0 ρ env objs1 tm w→(∀v u,VRel C w Mut ρ objs v u→VRel C w Mut ρ objs1 v u)→VRel C w Mut ρ objs1 c1 u→
     SRel C Mut Lent w0 ρ env (match eK_ C objs1 cs with | (vs,o)=>(c1::vs,o)).2 tm w∧(match eK_ C objs1 cs with | (vs,o)=>(c1::vs,o)).1.length=(c::cs).length∧(∀v u,VRel C w Mut ρ objs v u→VRel C w Mut ρ (match eK_ C objs1 cs with | (vs,o)=>(c1::vs,o)).2 v u)∧
     (∀(j:Nat) (x':AV κ Ty) (u':Value),(match eK_ C objs1 cs with | (vs,o)=>(c1::vs,o)).1[j]? =some x'→(u::us)[j]? =some u'→VRel C w Mut ρ (match eK_ C objs1 cs with | (vs,o)=>(c1::vs,o)).2 x' u'):=by
      intro objs1 c1 S1 v1 hc1
      obtain ⟨S',l',v',a'⟩:=kZ_ HC cs us S1 (by simpa using hl) (fun j y v a b=>v1 _ _ (hx (j+1) y v (by simpa using a) (by simpa using b)))
      refine ⟨S',by simp [l'],fun v u h=>v' _ _ (v1 _ _ h),fun j x' u' hj hu=> ?_⟩
      cases j with
      | zero=>simp at hj hu;subst hj;subst hu;exact v' _ _ hc1
      | succ j=>exact a' j x' u' (by simpa using hj) (by simpa using hu)
    have hc:=hx 0 c u rfl rfl
    have same:=go objs c S (fun v u h=>h) hc
    simp only [eK_]
    split
    ·rename_i id
     split
     ·rename_i t xs hsl
      exact go _ _ (S.kill id) (fun v u h=>h.kill id) (yN_ HC S (a7_ hsl) (fun h=>by cases h) hc)
     ·exact same
    ·rename_i id
     split
     ·rename_i t xs g e
      split
      ·rename_i t' ys hd
       exact go _ _ (S.kill id) (fun v u h=>h.kill id) (DE_ HC S e hd hc)
      ·exact same
     ·exact same
    ·exact same
theorem vu_ (HC:aO_ C) (S:SRel C Mut Lent w0 ρ env objs tm w) {x:AV κ Ty} {u:Value} (hx:VRel C w Mut ρ objs x u):
    SRel C Mut Lent w0 ρ env (rE_ C objs x).2 tm w∧(∀v u,VRel C w Mut ρ objs v u→VRel C w Mut ρ (rE_ C objs x).2 v u)∧VRel C w Mut ρ (rE_ C objs x).2 (rE_ C objs x).1 u:=by
  by_cases hv:∃cs,x= .agg cs
  ·obtain ⟨cs,rfl⟩:=hv
   cases hx with
   | agg hl hcell hrel=>
     obtain ⟨S',l',v',a'⟩:=kZ_ HC cs _ S hl hrel
     exact ⟨S',v', .agg (by rw [l'];exact hl) hcell a'⟩
  ·have e:rE_ C objs x=(match eK_ C objs [x] with | ([v],o)=>(v,o) | _=>(x,objs)):=by cases x<;>first | rfl | exact absurd ⟨_,rfl⟩ hv
   obtain ⟨S',l',v',a'⟩:=kZ_ HC [x] [u] S rfl (fun j y q a b=>by
     cases j with
     | zero=>simp at a b;subst a;subst b;exact hx
     | succ j=>simp at a)
   rw [e]
   generalize eK_ C objs [x]=p at S' l' v' a'
   obtain ⟨vs,o⟩:=p
   match vs,l' with
   | [v],_=>exact ⟨S',v',a' 0 v u rfl rfl⟩
theorem ij_ (HC:aO_ C):∀(xs:List (AV κ Ty)) (ms:List q4_) (us:List Value) {ρ:Nat→Loc} {objs:am_ κ Ty},SRel C Mut Lent w0 ρ env objs tm w→us.length=xs.length→
    (∀(j:Nat) (x:AV κ Ty) (u:Value),xs[j]? =some x→us[j]? =some u→VRel C w Mut ρ objs x u)→
    ∃ρ',SRel C Mut Lent w0 ρ' env (gg_ C objs xs ms).2 tm w∧(gg_ C objs xs ms).1.length=xs.length∧(∀v u,VRel C w Mut ρ objs v u→VRel C w Mut ρ' (gg_ C objs xs ms).2 v u)∧
     (∀(j:Nat) (x:AV κ Ty) (u:Value),(gg_ C objs xs ms).1[j]? =some x→us[j]? =some u→VRel C w Mut ρ' (gg_ C objs xs ms).2 x u)
  | [],ms,us,ρ,objs,S,hl,hx=>by
    cases ms<;>exact ⟨ρ,S,rfl,fun v u h=>h,fun j x u h=>by simp [gg_] at h⟩
  | x::xs,[],us,ρ,objs,S,hl,hx=>⟨ρ,S,rfl,fun v u h=>h,hx⟩
  | x::xs,m::ms,us,ρ,objs,S,hl,hx=>by
    obtain ⟨u,us,rfl⟩:∃u us',us=u::us':=by cases us with | nil=>simp at hl | cons u us=>exact ⟨u,us,rfl⟩
    have same:∃ρ',SRel C Mut Lent w0 ρ' env (match gg_ C objs xs ms with | (vs,o)=>(x::vs,o)).2 tm w∧(match gg_ C objs xs ms with | (vs,o)=>(x::vs,o)).1.length=(x::xs).length∧(∀v u,VRel C w Mut ρ objs v u→VRel C w Mut ρ' (match gg_ C objs xs ms with | (vs,o)=>(x::vs,o)).2 v u)∧
     (∀(j:Nat) (x':AV κ Ty) (u':Value),(match gg_ C objs xs ms with | (vs,o)=>(x::vs,o)).1[j]? =some x'→(u::us)[j]? =some u'→VRel C w Mut ρ' (match gg_ C objs xs ms with | (vs,o)=>(x::vs,o)).2 x' u'):=by
      obtain ⟨ρ',S',l',v',a'⟩:=ij_ HC xs ms us S (by simpa using hl) (fun j y v a b=>hx (j+1) y v (by simpa using a) (by simpa using b))
      refine ⟨ρ',S',by simp [l'],v',fun j x' u' hj hu=> ?_⟩
      cases j with
      | zero=>simp at hj hu;subst hj;subst hu;exact v' _ _ (hx 0 x u rfl rfl)
      | succ j=>exact a' j x' u' (by simpa using hj) (by simpa using hu)
    simp only [gg_]
    split
    ·rename_i id g i j t ys
     split
     ·rename_i s rows g' e
      split
      ·rename_i hg
       have hg:=Nat.eq_of_beq_eq_true hg
       subst hg
       obtain ⟨ρ1,S1,v1,o1⟩:=S.takeX1 HC e (hx 0 _ u rfl rfl)
       obtain ⟨ρ',S',l',v',a'⟩:=ij_ HC xs ms us S1 (by simpa using hl) (fun j y v a b=>v1 _ _ (hx (j+1) y v (by simpa using a) (by simpa using b)))
       refine ⟨ρ',S',by simp [l'],fun v u h=>v' v u (v1 v u h),fun j x' u' hj hu=> ?_⟩
       cases j with
       | zero=>simp at hj hu;subst hj;subst hu;exact v' _ _ o1
       | succ j=>exact a' j x' u' (by simpa using hj) (by simpa using hu)
      ·exact same
     ·exact same
    ·obtain ⟨S1,v1,o1⟩:=vu_ HC S (hx 0 x u rfl rfl)
     obtain ⟨ρ',S',l',v',a'⟩:=ij_ HC xs ms us S1 (by simpa using hl) (fun j y v a b=>v1 _ _ (hx (j+1) y v (by simpa using a) (by simpa using b)))
     refine ⟨ρ',S',by simp [l'],fun v u h=>v' v u (v1 v u h),fun j x' u' hj hu=> ?_⟩
     cases j with
     | zero=>simp at hj hu;subst hj;subst hu;exact v' _ _ o1
     | succ j=>exact a' j x' u' (by simpa using hj) (by simpa using hu)
    ·exact same
end
end Km
namespace Km
open Go
set_option linter.unusedVariables false
set_option linter.unusedSimpArgs false
variable {κ:Type} {Ty:κ→Type} {R:Type}
section
variable {P:Program} {C:Cod κ Ty} {T:TypeId→Option (TI κ Ty)}
variable {Mut:Nat→Prop} {Lent:Org κ Ty} {w0 w w':World} {ρ ρ':Nat→Loc} {env:Env κ Ty} {objs objs' objs1:am_ κ Ty} {tm:Array Value}
theorem SRel.mpset (S:SRel C Mut Lent w0 ρ env objs tm w) {id:Nat} {k v:κ} {es es':List (Ty k×Ty v)} {h h':Option (Nat×Option Nat)} (hid:objs[id]? =some (.mp k v es h))
    (hw:Weaker objs objs1) (hid1:objs1[id]? =objs[id]?) {sub':Nat→Nat×Nat×Nat}
    (hheap:∀b,b≠(ρ id).block→w'.heap[b]? =w.heap[b]?) (hsz:w'.heap.size=w.heap.size) (hos:w'.os=w.os) (htape:w'.tape=w.tape) (hout:w'.output=w.output)
    (hfoot:∀i,i<es'.length→(∀o,h'≠some (i,o))→(sub' i).2.2≠0→ah_ ρ objs id (sub' i).1∨∃j,objs1[j]? =some .dead∧ah_ ρ objs j (sub' i).1)
    (hrel:∀(W:WStep w w' (aN_ ρ objs) (aN_ (upd ρ id {ρ id with sub:=sub'}) (objs1.set id (.mp k v es' h')))) (hl:objs.length≤(objs1.set id (.mp k v es' h')).length)
      (hc:∀q,Compat ρ objs (upd ρ id {ρ id with sub:=sub'}) (objs1.set id (.mp k v es' h')) q),∃mes,MpRel C w' Mut (upd ρ id {ρ id with sub:=sub'}) (objs1.set id (.mp k v es' h')) {ρ id with sub:=sub'} k v es' h' mes):
    SRel C Mut Lent w0 (upd ρ id {ρ id with sub:=sub'}) env (objs1.set id (.mp k v es' h')) tm w'∧
      ∀(x:AV κ Ty) (u:Value),VRel C w Mut ρ objs x u→VRel C w' Mut (upd ρ id {ρ id with sub:=sub'}) (objs1.set id (.mp k v es' h')) x u:=by
  have hlt:id<objs1.length:=by rw [hw.1];exact (List.getElem?_eq_some_iff.mp hid).1
  have hset:(objs1.set id (.mp k v es' h'))[id]? =some (.mp k v es' h'):=by simp [hlt]
  have hne:∀q,q≠id→(objs1.set id (.mp k v es' h'))[q]? =objs1[q]? :=fun q h=>List.getElem?_set_ne (Ne.symm h)
  have hft:∀p b,ah_ (upd ρ id {ρ id with sub:=sub'}) (objs1.set id (.mp k v es' h')) p b→(p≠id∧ah_ ρ objs p b∧objs1[p]? =objs[p]?)∨(p=id∧(ah_ ρ objs id b∨∃j,objs1[j]? =some .dead∧ah_ ρ objs j b)):=fun p b hp=>by
    by_cases e:p=id
    ·subst e
     refine .inr ⟨rfl, ?_⟩
     unfold ah_ at hp
     rw [hset,ay_] at hp
     rcases hp with hp | ⟨i,h1,h2,h3,h4⟩
     ·refine .inl ?_
      unfold ah_;rw [hid];exact .inl hp
     ·rw [←h4];exact hfoot i h1 h2 h3
    ·refine .inl ⟨e, ?_⟩
     unfold ah_ at hp
     rw [hne p e,bC_ _ _ _ e] at hp
     rcases hw.2 p with e' | e'
     ·rw [e'] at hp;exact ⟨hp,e'⟩
     ·rw [e'] at hp;exact hp.elim
  have hback:∀p b,ah_ (upd ρ id {ρ id with sub:=sub'}) (objs1.set id (.mp k v es' h')) p b→aN_ ρ objs b:=fun p b hp=>by
    rcases hft p b hp with ⟨_,h,_⟩ | ⟨_,h | ⟨j,_,h⟩⟩
    ·exact ⟨p,h⟩
    ·exact ⟨_,h⟩
    ·exact ⟨j,h⟩
  have hmap:ah_ ρ objs id (ρ id).block:=by unfold ah_;rw [hid];exact .inl rfl
  have W:WStep w w' (aN_ ρ objs) (aN_ (upd ρ id {ρ id with sub:=sub'}) (objs1.set id (.mp k v es' h'))):=
    ⟨fun b _ hn=>hheap b (fun e=>hn ⟨id,by rw [e];exact hmap⟩),by omega,fun b ⟨p,hp⟩=> .inl (hback p b hp)⟩
  have hl:objs.length≤(objs1.set id (.mp k v es' h')).length:=by simp [hw.1]
  have hc:∀q,Compat ρ objs (upd ρ id {ρ id with sub:=sub'}) (objs1.set id (.mp k v es' h')) q:=fun q=>by
    by_cases e:q=id
    ·subst e;unfold Compat;rw [hid];exact .inl ⟨_,_,hset,by rw [ay_]⟩
    ·rcases hw.2 q with e' | e'
     ·exact Compat.of_eq (fun _=>(hne q e).trans e') (fun _=>bC_ _ _ _ e)
     ·exact kQ_ ((hne q e).trans e')
  refine ⟨S.step W hl hc (fun q=> ?_) (fun p q b hp hq=> ?_) hos htape hout,fun x u hx=>hx.step W hl hc⟩
  ·by_cases e:q=id
   ·subst e
    obtain ⟨mes,hm⟩:=hrel W hl hc
    unfold ORel
    rw [hset,ay_]
    exact ⟨mes,hm⟩
   ·rcases hw.2 q with e' | e'
    ·refine ORel.step W hl hc (S.ob q) (by rw [hne q e,e']) (bC_ _ _ _ e) (fun b hb=>hheap b fun eb=> ?_)
     rw [eb] at hb
     exact e (S.inj _ _ _ hb hmap)
    ·unfold ORel;rw [hne q e,e'];trivial
  ·have dead:∀j b,objs1[j]? =some .dead→∀p,objs1[p]? =objs[p]? →ah_ ρ objs p b→ah_ ρ objs j b→False:=fun j b hj p hp1 hp hjb=>by
     have:=S.inj _ _ _ hp hjb
     subst this
     unfold ah_ at hp;rw [←hp1,hj] at hp;exact hp
   rcases hft p b hp with ⟨a1,a2,a3⟩ | ⟨a1,a2⟩<;>rcases hft q b hq with ⟨b1,b2,b3⟩ | ⟨b1,b2⟩
   ·exact S.inj _ _ _ a2 b2
   ·rcases b2 with b2 | ⟨j,j1,j2⟩
    ·exact absurd (S.inj _ _ _ a2 b2) a1
    ·exact (dead j b j1 p a3 a2 j2).elim
   ·rcases a2 with a2 | ⟨j,j1,j2⟩
    ·exact absurd (S.inj _ _ _ b2 a2) b1
    ·exact (dead j b j1 q b3 b2 j2).elim
   ·rw [a1,b1]
theorem MpRel.put {L:Loc} {k v:κ} {es:List (Ty k×Ty v)} {h:Option (Nat×Option Nat)} {mes mes':Array MapEntry} (H:MpRel C w Mut ρ objs L k v es h mes) {n:Nat} {e:Ty k×Ty v} (he:es[n]? =some e)
    (hh:∀i o,h=some (i,o)→i=n) {y:Ty v} {L':Nat×Nat×Nat} {val:Value}
    (W:WStep w w' (aN_ ρ objs) (aN_ ρ' objs')) (hl:objs.length≤objs'.length) (hc:∀q,Compat ρ objs ρ' objs' q) (hheap:∀b,b≠L.block→w'.heap[b]? =w.heap[b]?)
    (hat:w'.heap[L.block]? =some (.map mes' mes'.size)) (hs:mes'.size=mes.size) (ho:∀q,q≠n→mes'[q]? =mes[q]?) (hn:∀me,mes[n]? =some me→∃me',mes'[n]? =some me'∧me'.key=me.key∧me'.born=me.born∧me'.val=val)
    (hv:EntR C w' Mut ρ' objs' L' (C.enc v y) val) (hd:∀i,i<es.length→i≠n→(∀o,h≠some (i,o))→(L.sub i).2.2≠0→L'.2.2≠0→(L.sub i).1≠L'.1) (hb:L'.2.2≠0→L'.1≠L.block):
    MpRel C w' Mut ρ' objs' {L with sub:=fun q=>if q=n then L' else L.sub q} k v (es.set n (e.1,y)) none mes':=by
  have hlt:=(List.getElem?_eq_some_iff.mp he).1
  have hset:∀q e',(es.set n (e.1,y))[q]? =some e'→(q=n∧e'=(e.1,y))∨(q≠n∧es[q]? =some e'):=fun q e' hq=>by
    by_cases eq:q=n
    ·subst eq;simp [hlt] at hq;exact .inl ⟨rfl,hq.symm⟩
    ·rw [List.getElem?_set_ne (Ne.symm eq)] at hq;exact .inr ⟨eq,hq⟩
  have hno:∀q,q≠n→∀o,h≠some (q,o):=fun q hq o ho=>hq (hh q o ho)
  refine ⟨by simp [hs,H.size],hat,fun q e' hq=> ?_,fun q e' me hq hm _=> ?_,fun q o me hq=>(by cases hq),fun q o hq=>(by cases hq),fun q hq _ hcap=> ?_,fun p q hp hq _ _ hcp hcq hpq=> ?_⟩
  ·rcases hset q e' hq with ⟨rfl,rfl⟩ | ⟨hqn,hq⟩
   ·obtain ⟨h1,me,h2,h3,h4⟩:=H.key q e he
    obtain ⟨me',g1,g2,g3,_⟩:=hn me h2
    exact ⟨h1,me',g1,by rw [g3,h3],by rw [g2];exact h4.step W hl hc⟩
   ·obtain ⟨h1,me,h2,h3,h4⟩:=H.key q e' hq
    exact ⟨h1,me,by rw [ho q hqn];exact h2,h3,h4.step W hl hc⟩
  ·rcases hset q e' hq with ⟨rfl,rfl⟩ | ⟨hqn,hq⟩
   ·obtain ⟨_,me0,h2,_⟩:=H.key q e he
    obtain ⟨me',g1,_,_,g4⟩:=hn me0 h2
    rw [g1] at hm;cases hm
    simp only [if_true]
    rw [g4];exact hv
   ·rw [ho q hqn] at hm
    simp only [if_neg hqn]
    refine (H.val q e' me hq hm (hno q hqn)).step W hl hc fun b hb1 hb2=>hheap b fun eb=> ?_
    exact H.own q (List.getElem?_eq_some_iff.mp hq).1 (hno q hqn) hb1 (by rw [hb2,eb])
  ·simp only [List.length_set] at hq
   by_cases eq:q=n
   ·subst eq;simp only [if_true] at hcap⊢;exact hb hcap
   ·simp only [if_neg eq] at hcap⊢;exact H.own q hq (hno q eq) hcap
  ·simp only [List.length_set] at hp hq
   by_cases ep:p=n<;>by_cases eq:q=n
   ·rw [ep,eq]
   ·subst ep;simp only [if_true,if_neg eq] at hcp hcq hpq
    exact absurd hpq.symm (hd q hq eq (hno q eq) hcq hcp)
   ·subst eq;simp only [if_true,if_neg ep] at hcp hcq hpq
    exact absurd hpq (hd p hp ep (hno p ep) hcp hcq)
   ·simp only [if_neg ep,if_neg eq] at hcp hcq hpq
    exact H.disj p q hp hq (hno p ep) (hno q eq) hcp hcq hpq
theorem uy_ {j:Nat} {s:κ} {xs:List (Ty s)} (h:objs[j]? =some (.sl s xs)) {u:Value} (hv:VRel C w Mut ρ objs (.own j) u):∃A,u= .slice A xs.length (ρ j).cap∧((ρ j).cap≠0→A=some (at' (ρ j).block (ρ j).off)):=by
  cases hv with
  | own h1 hA=>rw [h] at h1;cases h1;exact ⟨_,rfl,hA⟩
  | ownd hc hin h1=>rw [BF_ h] at h1;cases h1
theorem jm_ (HC:aO_ C) (S:SRel C Mut Lent w0 ρ env objs tm w) (id:Nat):
    ∃ρ',SRel C Mut Lent w0 ρ' env (kv_ C id objs) tm w∧∀(x:AV κ Ty) (u:Value),VRel C w Mut ρ objs x u→VRel C w Mut ρ' (kv_ C id objs) x u:=by
  unfold kv_
  split
  ·rename_i k v es i j hid
   split
   ·rename_i s xs hsl
    split
    ·exact ⟨ρ,S,fun _ _ h=>h⟩
    ·rename_i hne
     split
     ·rename_i y hdec
      have hne:id≠j:=fun e=>by subst e;simp at hne
      have hso:=S.ob id
      simp only [ORel,hid] at hso
      obtain ⟨mes,H⟩:=hso
      have hi:=H.hlt i _ rfl
      have he:es[i]? =some es[i]:=List.getElem?_eq_getElem hi
      have hm:mes[i]? =some (mes[i]'(by rw [H.size];exact hi)):=Array.getElem?_eq_getElem _
      have hv:=(H.hole i (some j) _ rfl hm).2 j rfl
      have hsl':=a7_ hsl
      have hjo:=S.ob j
      simp only [ORel,hsl'] at hjo
      have hjo:SlAt C w Mut ρ objs (ρ j).block (ρ j).off (ρ j).cap s xs:=hjo
      have hmod:es.modify i (fun e=>(e.1,y))=es.set i (es[i].1,y):=by
        apply List.ext_getElem?
        intro q
        rw [List.getElem?_modify,List.getElem?_set]
        by_cases e:i=q
        ·subst e;simp [hi]
        ·simp [e]
      rw [hmod]
      have hfj:(ρ j).cap≠0→ah_ ρ objs j (ρ j).block:=fun hcap=>bD_ hsl' hcap
      have hfi:∀q,q<es.length→(∀o,some (i,some j)≠some (q,o))→((ρ id).sub q).2.2≠0→ah_ ρ objs id ((ρ id).sub q).1:=fun q h1 h2 h3=>by
        unfold ah_;rw [hid];exact .inr ⟨q,h1,h2,h3,rfl⟩
      have hfb:ah_ ρ objs id (ρ id).block:=by unfold ah_;rw [hid];exact .inl rfl
      refine ⟨_,SRel.mpset S hid (objs1:=objs.set j .dead) (.kill objs j) (List.getElem?_set_ne (Ne.symm hne)) (sub':=fun q=>if q=i then ((ρ j).block,(ρ j).off,(ρ j).cap) else (ρ id).sub q) (fun _ _=>rfl) rfl rfl rfl rfl
        (fun q hq _ hcap=> ?_) (fun W hl hc=>⟨mes,H.put he (fun i' o ho=>by cases ho;rfl) (val:=(mes[i]'(by rw [H.size];exact hi)).val) W hl hc (fun _ _=>rfl) H.at_ rfl (fun _ _=>rfl) (fun me hme=>⟨me,hme,rfl,rfl, ?_⟩) ?_ (fun q hq hqi hn hcq hcj e=> ?_) (fun hcj e=> ?_)⟩)⟩
      ·by_cases e:q=i
       ·subst e
        simp only [if_true] at hcap⊢
        have hj:=(List.getElem?_eq_some_iff.mp hsl').1
        exact .inr ⟨j,by simp [hj],hfj hcap⟩
       ·simp only [if_neg e] at hcap⊢
        simp only [List.length_set] at hq
        exact .inl (hfi q hq (fun o ho=>by cases ho;exact e rfl) hcap)
      ·rw [hm] at hme;cases hme;rfl
      ·rw [HC.dec _ _ _ hdec]
       obtain ⟨A,h1,h2⟩:=uy_ hsl' hv
       exact ⟨A,h1,h2,hjo.step W hl hc (fun _=>rfl)⟩
      ·have h1:=hfi q hq hn hcq
       have h2:=hfj hcj
       dsimp only at e
       rw [e] at h1
       exact hne (S.inj _ _ _ h1 h2)
      ·have h2:=hfj hcj
       dsimp only at e
       rw [e] at h2
       exact hne (S.inj _ _ _ hfb h2)
     ·exact ⟨ρ,S,fun _ _ h=>h⟩
   ·exact ⟨ρ,S,fun _ _ h=>h⟩
  ·exact ⟨ρ,S,fun _ _ h=>h⟩
theorem lt_ (HC:aO_ C):∀(n:Nat) (objs:am_ κ Ty) (ρ:Nat→Loc),SRel C Mut Lent w0 ρ env objs tm w→
    ∃ρ',SRel C Mut Lent w0 ρ' env (pS_ C n objs) tm w∧∀(x:AV κ Ty) (u:Value),VRel C w Mut ρ objs x u→VRel C w Mut ρ' (pS_ C n objs) x u
  | 0,objs,ρ,S=>⟨ρ,S,fun _ _ h=>h⟩
  | n+1,objs,ρ,S=>by
    obtain ⟨ρ1,a1,a2⟩:=jm_ HC S n
    obtain ⟨ρ2,b1,b2⟩:=lt_ HC n _ ρ1 a1
    exact ⟨ρ2,b1,fun x u h=>b2 x u (a2 x u h)⟩
theorem SRel.mpout (S:SRel C Mut Lent w0 ρ env objs tm w) {id:Nat} {k v:κ} {es:List (Ty k×Ty v)} (hid:objs[id]? =some (.mp k v es none)) {mes:Array MapEntry} (H:MpRel C w Mut ρ objs (ρ id) k v es none mes)
    {i:Nat} {e:Ty k×Ty v} (he:es[i]? =some e) {b:Bool} {s:κ} {xs:List (Ty s)} (henc:C.enc v e.2=[.inl b s xs]) {me:MapEntry} (hm:mes[i]? =some me):
    ∃ρ',SRel C Mut Lent w0 ρ' env (objs.set id (.mp k v es (some (i,some objs.length)))++[.sl s xs]) tm w∧VRel C w Mut ρ' (objs.set id (.mp k v es (some (i,some objs.length)))++[.sl s xs]) (.own objs.length) me.val∧
     ∀(x:AV κ Ty) (u:Value),VRel C w Mut ρ objs x u→VRel C w Mut ρ' (objs.set id (.mp k v es (some (i,some objs.length)))++[.sl s xs]) x u:=by
  have hlt:=(List.getElem?_eq_some_iff.mp hid).1
  have hil:=(List.getElem?_eq_some_iff.mp he).1
  have hv:=H.val i e me he hm (fun o h=>by cases h)
  rw [henc] at hv
  obtain ⟨A,hv1,hv2,hv3⟩:=hv
  generalize hO:objs.set id (.mp k v es (some (i,some objs.length)))++[AObj.sl s xs]=O
  generalize hρ:upd ρ objs.length ⟨((ρ id).sub i).1,((ρ id).sub i).2.1,((ρ id).sub i).2.2,noSub⟩=ρ'
  have hlen:(objs.set id (AObj.mp k v es (some (i,some objs.length)))).length=objs.length:=by simp
  have o_new:O[objs.length]? =some (.sl s xs):=by
    rw [←hO,List.getElem?_append_right (by simp)];simp
  have o_id:O[id]? =some (.mp k v es (some (i,some objs.length))):=by
    rw [←hO,bT_ (by rw [hlen];exact hlt)];simp [hlt]
  have o_else:∀q,q≠id→q<objs.length→O[q]? =objs[q]? :=fun q h1 h2=>by
    rw [←hO,bT_ (by rw [hlen];exact h2),List.getElem?_set_ne (Ne.symm h1)]
  have o_out:∀q,objs.length<q→O[q]? =none:=fun q h=>by
    rw [←hO];exact List.getElem?_eq_none (by simp;omega)
  have r_new:ρ' objs.length=⟨((ρ id).sub i).1,((ρ id).sub i).2.1,((ρ id).sub i).2.2,noSub⟩:=by rw [←hρ,ay_]
  have r_else:∀q,q<objs.length→ρ' q=ρ q:=fun q h=>by rw [←hρ];exact bC_ _ _ _ (by omega)
  have hblk:ah_ ρ objs id (ρ id).block:=by unfold ah_;rw [hid];exact .inl rfl
  have hent:∀q,q<es.length→((ρ id).sub q).2.2≠0→ah_ ρ objs id ((ρ id).sub q).1:=fun q h1 h3=>by
    unfold ah_;rw [hid];exact .inr ⟨q,h1,fun o h=>(by cases h),h3,rfl⟩
  have hft:∀p b,ah_ ρ' O p b→(p<objs.length∧p≠id∧ah_ ρ objs p b)∨(p=id∧ah_ ρ objs id b∧(((ρ id).sub i).2.2≠0→b≠((ρ id).sub i).1))∨(p=objs.length∧((ρ id).sub i).2.2≠0∧b=((ρ id).sub i).1∧ah_ ρ objs id b):=fun p b hp=>by
    unfold ah_ at hp
    by_cases e1:p=id
    ·subst e1
     rw [o_id,r_else p hlt] at hp
     refine .inr (.inl ⟨rfl, ?_⟩)
     rcases hp with hp | ⟨q,h1,h2,h3,h4⟩
     ·rw [←hp];exact ⟨hblk,fun hc=>Ne.symm (H.own i hil (fun o h=>(by cases h)) hc)⟩
     ·have hqi:q≠i:=fun e=>h2 _ (by rw [e])
      rw [←h4]
      exact ⟨hent q h1 h3,fun hc e=>hqi (H.disj q i h1 hil (fun o h=>(by cases h)) (fun o h=>(by cases h)) h3 hc e)⟩
    ·by_cases e2:p<objs.length
     ·rw [o_else p e1 e2,r_else p e2] at hp
      exact .inl ⟨e2,e1,hp⟩
     ·by_cases e3:p=objs.length
      ·subst e3
       rw [o_new,r_new] at hp
       exact .inr (.inr ⟨rfl,hp.1,hp.2.symm,by rw [←hp.2];exact hent i hil hp.1⟩)
      ·rw [o_out p (by omega)] at hp;exact hp.elim
  have W:WStep w w (aN_ ρ objs) (aN_ ρ' O):=WStep.same fun b ⟨p,hp⟩=>by
    rcases hft p b hp with ⟨_,_,h⟩ | ⟨_,h,_⟩ | ⟨_,_,_,h⟩
    ·exact ⟨p,h⟩
    ·exact ⟨id,h⟩
    ·exact ⟨id,h⟩
  have hl:objs.length≤O.length:=by rw [←hO];simp
  have hc:∀q,Compat ρ objs ρ' O q:=fun q=>by
    by_cases e1:q=id
    ·subst e1;unfold Compat;rw [hid];exact .inl ⟨_,_,o_id,by rw [r_else _ hlt]⟩
    ·exact Compat.of_eq (fun h=>o_else q e1 h) (fun h=>r_else q h)
  have hown:VRel C w Mut ρ' O (.own objs.length) me.val:=by
    have:=VRel.own (C:=C) (w:=w) (Mut:=Mut) (ρ:=ρ') (A:=A) o_new (fun h=>by rw [r_new] at h⊢;exact hv2 h)
    rw [r_new] at this
    rw [hv1];exact this
  refine ⟨ρ',S.step W hl hc (fun q=> ?_) (fun p q b hp hq=> ?_) rfl rfl rfl,hown,fun x u hx=>hx.step W hl hc⟩
  ·by_cases e1:q=id
   ·subst e1
    unfold ORel
    rw [o_id,r_else _ hlt]
    refine ⟨mes,H.size,H.at_,fun q' e' he'=> ?_,fun q' e' me' he' hm' hn=> ?_,fun q' o me' ho hm'=> ?_,fun q' o ho=> ?_,fun q' hq' _=>H.own q' hq' (fun o h=>by cases h),fun p' q' hp' hq' _ _=>H.disj p' q' hp' hq' (fun o h=>by cases h) (fun o h=>by cases h)⟩
    ·obtain ⟨h1,me',h2,h3,h4⟩:=H.key q' e' he'
     exact ⟨h1,me',h2,h3,h4.step W hl hc⟩
    ·exact (H.val q' e' me' he' hm' (fun o h=>by cases h)).step W hl hc (fun _ _ _=>rfl)
    ·cases ho
     rw [hm] at hm';cases hm'
     exact ⟨by rw [hv1];rfl,fun j hj=>by cases hj;exact hown⟩
    ·cases ho;exact hil
   ·by_cases e2:q<objs.length
    ·exact ORel.step W hl hc (S.ob q) (o_else q e1 e2) (r_else q e2) (fun _ _=>rfl)
    ·by_cases e3:q=objs.length
     ·subst e3
      unfold ORel
      rw [o_new,r_new]
      exact hv3.step W hl hc (fun _=>rfl)
     ·unfold ORel;rw [o_out q (by omega)];trivial
  ·rcases hft p b hp with ⟨a1,a2,a3⟩ | ⟨a1,a2,a3⟩ | ⟨a1,a2,a3,a4⟩<;>rcases hft q b hq with ⟨b1,b2,b3⟩ | ⟨b1,b2,b3⟩ | ⟨b1,b2,b3,b4⟩
   ·exact S.inj _ _ _ a3 b3
   ·exact absurd (S.inj _ _ _ a3 b2) a2
   ·exact absurd (S.inj _ _ _ a3 b4) a2
   ·exact absurd (S.inj _ _ _ b3 a2) b2
   ·rw [a1,b1]
   ·exact absurd b3 (a3 b2)
   ·exact absurd (S.inj _ _ _ b3 a4) b2
   ·exact absurd a3 (b3 a2)
   ·rw [a1,b1]
theorem hD_ {α β:Type} {q:α→Bool}:∀{es:List (α×β)} {n:Nat} {p:Nat×β},lU_ q es n=some p→n≤p.1∧∃a,es[p.1-n]? =some (a,p.2)∧q a=true
  | [],n,p,h=>by cases h
  | (a,b)::es,n,p,h=>by
    simp only [lU_] at h
    split at h
    ·rename_i hq;cases h;exact ⟨Nat.le_refl _,a,by simp,hq⟩
    ·obtain ⟨h1,a',h2,h3⟩:=hD_ h
     refine ⟨by omega,a', ?_,h3⟩
     rw [show p.1-n=(p.1-(n+1))+1 by omega];simpa using h2
theorem sP_ {em:Bool} {n:Nat} {t:TypeId} {u:Value} (h:P.underlying t=some .string∨∃q,P.underlying t=some (.int q)):(Instr.checkKey em (n+1) t u).run P w= .ok () w:=by
  rcases h with h | ⟨q,h⟩<;>unfold Instr.checkKey<;>simp only [Sem.run_bind,run_underlying h,Result.andThen_ok]<;>cases u<;>rfl
theorem jC_ (HT:TOk P C T) {t kt et:TypeId} {ti:TI κ Ty} {k v:κ} (ht:T t=some ti) (hs:ti.shp= .map kt et k v) {x:Ty k} {u:Value} (hu:VRel C w Mut ρ objs (.agg (C.enc k x)) u) (em:Bool):
    (Instr.checkKey em 10000 kt u).run P w= .ok () w:=by
  obtain ⟨_,haeq,⟨tk,fs,hk1,hk2,hk3⟩,_⟩:=HT.map t ti kt et k v ht hs
  have ha:=haeq x x
  obtain ⟨fields,hund,hfs,_⟩:=HT.struct kt tk fs hk1 hk2
  obtain ⟨_,_,hnm⟩:=HT.seq kt tk fs hk1 hk2
  have hnm:=hnm fields hund
  unfold aeq at ha
  rw [hk1] at ha;dsimp only at ha
  rw [hk2] at ha;dsimp only at ha
  cases hu with
  | agg l1 c1 r1=>
    rename_i us
    rw [show (10000:Nat)=9999+1 from rfl,Instr.checkKey]
    simp only [Sem.run_bind,run_underlying hund,Result.andThen_ok]
    rw [←Array.forIn_toList]
    rw [←hfs] at ha hk3
    generalize C.keq k x x=b0 at ha
    generalize fields.toList=L at ha hk3 hnm
    induction L generalizing b0 with
    | nil=>simp
    | cons f L ih=>
      simp only [List.map_cons,y1_] at ha
      split at ha
      ·rename_i tf htf
       split at ha
       ·rename_i p q hp hq
        split at ha
        ·rename_i r hr
         split at ha
         ·rename_i r' hr'
          obtain ⟨a,a1,a2⟩:=jG_ (P:=P) HT htf ⟨l1,c1,r1⟩ hp
          obtain ⟨tf',g1,g2⟩:=hk3 _ (List.mem_cons_self ..)
          rw [htf] at g1;cases g1
          have hflat:P.underlying f.type=some .string∨∃q,P.underlying f.type=some (.int q):=by
            rcases g2 with ⟨q,hq⟩ | hq
            ·exact .inr ⟨q,HT.int _ _ _ htf hq⟩
            ·exact .inl (HT.str _ _ htf hq)
          have hn:=hnm f (List.mem_cons_self ..)
          have hck:(Instr.checkKey em 9999 f.type a).run P w= .ok () w:=sP_ (n:=9998) hflat
          simp only [List.forIn_cons,Sem.run_bind,hn,ne_eq,not_false_eq_true,if_true,Result.andThen_ok,a1,hck,Sem.run_pure]
          exact ih r' hr' (fun g hg=>hk3 g (List.mem_cons_of_mem _ hg)) (fun g hg=>hnm g (List.mem_cons_of_mem _ hg))
         ·cases ha
        ·cases ha
       ·cases ha
      ·cases ha
theorem km_ (HT:TOk P C T) {kt:TypeId} {k v:κ} (haeq:∀x y,aeq T 8 kt (.agg (C.enc k x)) (.agg (C.enc k y))=some (C.keq k x y)) {x:Ty k} {u:Value} (hu:VRel C w Mut ρ objs (.agg (C.enc k x)) u):
    ∀(es:List (Ty k×Ty v)) (ms:List MapEntry) (n:Nat),ms.length=es.length→(∀(q:Nat) (e:Ty k×Ty v),es[q]? =some e→∃me:MapEntry,ms[q]? =some me∧VRel C w Mut ρ objs (.agg (C.enc k e.1)) me.key)→
     (Instr.findAsking kt u ms n).run P w= .ok ((lU_ (C.keq k x) es n).map fun p=>(p.1,((ms[p.1-n]?).map (·.val)).getD default)) w
  | [],[],n,_,_=>by simp [Instr.findAsking,lU_]
  | [],_::_,_,h,_=>by simp at h
  | _::_,[],_,h,_=>by simp at h
  | e::es,m::ms,n,hl,hr=>by
    obtain ⟨me,h1,h2⟩:=hr 0 e rfl
    simp only [List.getElem?_cons_zero,Option.some.injEq] at h1
    subst h1
    have he:(Op.equal kt u m.key).run P w= .ok (C.keq k x e.1) w:=pF_ (P:=P) HT 8 9992 kt _ _ _ _ _ (haeq x e.1) hu h2
    have ih:=km_ HT haeq hu es ms (n+1) (by simpa using hl) (fun q e' hq=>hr (q+1) e' (by simpa using hq))
    obtain ⟨a,b⟩:=e
    simp only [Instr.findAsking,Sem.run_bind,he,Result.andThen_ok,lU_]
    cases hk:C.keq k x a with
    | true=>simp
    | false=>
      simp only [Bool.false_eq_true,if_false]
      rw [ih]
      cases hm:lU_ (C.keq k x) es (n+1) with
      | none=>rfl
      | some p=>
        obtain ⟨h1,_⟩:=hD_ hm
        simp only [Option.map_some]
        rw [show p.1-n=(p.1-(n+1))+1 by omega,List.getElem?_cons_succ]
theorem k5_ (HT:TOk P C T) {t kt et:TypeId} {ti:TI κ Ty} {k v:κ} (ht:T t=some ti) (hs:ti.shp= .map kt et k v) {x:Ty k} {u:Value} (hu:VRel C w Mut ρ objs (.agg (C.enc k x)) u) {L:Loc} {es:List (Ty k×Ty v)} {h:Option (Nat×Option Nat)}
    {mes:Array MapEntry} (H:MpRel C w Mut ρ objs L k v es h mes):(Instr.findKey kt u mes.toList).run P w= .ok ((lU_ (C.keq k x) es 0).map fun p=>(p.1,((mes[p.1]?).map (·.val)).getD default)) w:=by
  obtain ⟨_,haeq,⟨tk,fs,hk1,hk2,hk3⟩,_⟩:=HT.map t ti kt et k v ht hs
  obtain ⟨fields,hund,_⟩:=HT.struct kt tk fs hk1 hk2
  rw [run_findKey_eq (P:=P) (w:=w) (k:=kt) (by rw [hund])]
  have:=km_ (v:=v) HT haeq hu es mes.toList 0 (by simp [H.size]) (fun q e hq=>by
    obtain ⟨_,me,h1,_,h3⟩:=H.key q e hq
    exact ⟨me,by simpa using h1,h3⟩)
  rw [this];simp
theorem qn_ (HC:aO_ C) {kt et:TypeId} {k v:κ} {m key:AV κ Ty} {K:Nat→(k v:κ)→List (Ty k×Ty v)→Ty k→Option R} {r:R} (h:zV_ C objs (.map kt et k v) m key K=some r):
    ∃id es x,m= .mapv id∧objs[id]? =some (.mp k v es none)∧key= .agg (C.enc k x)∧K id k v es x=some r:=by
  unfold zV_ at h
  split at h
  ·rename_i kt' et' k1 v1 id hsh
   cases hsh
   split at h
   ·rename_i k' v' es hid
    split at h
    ·rename_i hsame
     simp only [Bool.and_eq_true] at hsame
     have e1:=HC.same _ _ hsame.1
     have e2:=HC.same _ _ hsame.2
     subst e1;subst e2
     split at h
     ·rename_i ks _
      split at h
      ·rename_i x hx
       exact ⟨id,es,x,rfl,hid,by rw [HC.dec _ _ _ hx],h⟩
      ·cases h
     ·cases h
    ·cases h
   ·cases h
  ·cases h
theorem oS_ {id:Nat} {k v:κ} {es:List (Ty k×Ty v)} {h:Option (Nat×Option Nat)} (hid:objs[id]? =some (.mp k v es h)) {u:Value} (hu:VRel C w Mut ρ objs (.mapv id) u):u= .map (some (ρ id).block):=by
  cases hu with
  | mapv h1=>rfl
  | mapd hc hin h1=>rw [BM_ hid] at h1;cases h1
theorem Ct_ {cs:List (AV κ Ty)} (hl:∀c∈cs,∃v,c= .lit v) {u1 u2:Value} (h1:VRel C w Mut ρ objs (.agg cs) u1) (h2:VRel C w Mut ρ objs (.agg cs) u2):u1=u2:=by
  cases h1 with
  | agg l1 c1 r1=>
    cases h2 with
    | agg l2 c2 r2=>
      rename_i us qs
      congr 1
      have:us=qs:=by
        apply List.ext_getElem?
        intro j
        by_cases hj:j<cs.length
        ·have e1:us[j]? =some (us[j]'(by omega)):=List.getElem?_eq_getElem _
         have e2:qs[j]? =some (qs[j]'(by omega)):=List.getElem?_eq_getElem _
         have ec:cs[j]? =some cs[j]:=List.getElem?_eq_getElem hj
         obtain ⟨v,hv⟩:=hl cs[j] (List.getElem_mem hj)
         rw [hv] at ec
         have g1:=(aU_ (r1 j _ _ ec e1)).1
         have g2:=(aU_ (r2 j _ _ ec e2)).1
         rw [e1,e2,g1,g2]
        ·rw [List.getElem?_eq_none (by omega),List.getElem?_eq_none (by omega)]
      rw [this]
theorem s6_ {cs:List (AV κ Ty)} (hl:∀c∈cs,(∃q n,c= .lit (.int q n))∨∃s,c= .lit (.string s)) {u:Value} (h1:VRel C w Mut ρ objs (.agg cs) u) (n:Nat):Instr.sameBits (n+1) u u=true:=by
  cases h1 with
  | agg l1 c1 r1=>
    rename_i us
    simp only [Instr.sameBits,beq_self_eq_true,Bool.true_and,List.all_eq_true]
    intro p hp
    obtain ⟨j,hj⟩:=List.getElem?_of_mem hp
    simp only [List.getElem?_zip_eq_some] at hj
    obtain ⟨h1,h2⟩:=hj
    have hjl:j<cs.length:=by have:=(List.getElem?_eq_some_iff.mp h1).1;omega
    have ec:cs[j]? =some cs[j]:=List.getElem?_eq_getElem hjl
    have e12:p.1=p.2:=by rw [h1] at h2;exact Option.some.inj h2
    rcases hl cs[j] (List.getElem_mem hjl) with ⟨q,m,hv⟩ | ⟨s,hv⟩
    ·rw [hv] at ec
     have g1:=(aU_ (r1 j _ _ ec h1)).1
     rw [←e12,g1];cases n<;>simp [Instr.sameBits]
    ·rw [hv] at ec
     have g1:=(aU_ (r1 j _ _ ec h1)).1
     have hss:(s==s)=true:=by simp [MapKept.bytes_beq]
     rw [←e12,g1];cases n<;>simp [Instr.sameBits,hss]
theorem tn_ (S:SRel C Mut Lent w0 ρ env objs tm w) (t:TypeId) (k v:κ):
    ∃u w' ρ',(Instr.makeMap t none).run P w= .ok u w'∧SRel C Mut Lent w0 ρ' env (objs++[.mp k v [] none]) tm w'∧VRel C w' Mut ρ' (objs++[.mp k v [] none]) (.mapv objs.length) u:=by
  refine ⟨.map (some w.heap.size),w.alloc (.map #[] 0),upd ρ objs.length ⟨w.heap.size,0,0,noSub⟩, ?_, ?_, ?_⟩
  ·rfl
  ·refine (S.fresh (o:= .mp k v [] none) (l:=⟨w.heap.size,0,0,noSub⟩) (w':=w.alloc (.map #[] 0)) (fun b h=>bh_ w _ h) (by simp) (Nat.le_refl _) (fun W=> ?_) rfl rfl rfl).2
   unfold ORel
   rw [a0_,ay_]
   refine ⟨#[],rfl, ?_,fun i e h=>by simp at h,fun i e me h=>by simp at h,fun i o me h=>(by cases h),fun i o h=>(by cases h),fun i h=>by simp at h,fun i j h=>by simp at h⟩
   exact (MapKept.heap_alloc w (.map #[] 0)).1
  ·have:=VRel.mapv (C:=C) (w:=w.alloc (.map #[] 0)) (Mut:=Mut) (ρ:=upd ρ objs.length ⟨w.heap.size,0,0,noSub⟩) (a0_ objs (.mp k v [] none))
   rw [ay_] at this
   exact this
theorem so_ (S:SRel C Mut Lent w0 ρ env objs tm w) {id:Nat} {k v:κ} {es:List (Ty k×Ty v)} (hid:objs[id]? =some (.mp k v es none)) {mes:Array MapEntry} (H:MpRel C w Mut ρ objs (ρ id) k v es none mes)
    {p:Nat×Ty v} {e:Ty k×Ty v} (he:es[p.1]? =some e) (hp:e.2=p.2) {me:MapEntry} (hm:mes[p.1]? =some me) {K:AV κ Ty→am_ κ Ty→Option R} {r:R} (h:Az_ C objs id k v es p K=some r):
    ∃x objs' ρ',K x objs'=some r∧SRel C Mut Lent w0 ρ' env objs' tm w∧VRel C w Mut ρ' objs' x me.val:=by
  unfold Az_ at h
  split at h
  ·rename_i u henc
   have hv:=H.val p.1 e me he hm (fun o h=>by cases h)
   rw [hp,henc] at hv
   refine ⟨_,_,ρ,h,S, ?_⟩
   rw [hv.1];exact .lit hv.2.1
  ·rename_i b s xs henc
   obtain ⟨ρ',g1,g2,_⟩:=S.mpout hid H he (by rw [hp];exact henc) hm
   exact ⟨_,_,ρ',h,g1,g2⟩
  ·cases h
theorem A2_ {et:TypeId} {i:TypeInfo} {z:Value} (h1:P.info? et=some i) (h2:i.zero=some z):(zeroValue et).run P w= .ok z w:=by
  simp [zeroValue,sF_ h1,h2]
theorem xD_ {z:Value} (h:aL_ z=true):z.cells= #[z]:=by
  cases z<;>first | rfl | cases h
theorem wu_ (HT:TOk P C T) {t kt et:TypeId} {ti te:TI κ Ty} {k v:κ} (ht:T t=some ti) (hs:ti.shp= .map kt et k v) (hte:T et=some te) {z:AV κ Ty} (hz:te.zero=[z]):
    ∃u,(zeroValue et).run P w= .ok u w∧CX_ z=some u∧aL_ u=true:=by
  obtain ⟨_,_,_,_,i,u,h1,h2,h3⟩:=HT.map t ti kt et k v ht hs
  obtain ⟨i',z',g1,_,_,g4,g5,_⟩:=HT.info et te hte
  rw [h1] at g1;cases g1
  rw [h2] at g4;cases g4
  refine ⟨u,A2_ h1 h2, ?_,h3⟩
  rw [xD_ h3,hz] at g5
  simpa using g5.symm
theorem rV_ (HT:TOk P C T) (HC:aO_ C) (S:SRel C Mut Lent w0 ρ env objs tm w) {t kt et:TypeId} {ti te:TI κ Ty} {k v:κ} (ht:T t=some ti) (hs:ti.shp= .map kt et k v) (hte:T et=some te) {z:Value} (hz:te.zero=[.lit z])
    {m key:AV κ Ty} {um uk:Value} (hm:VRel C w Mut ρ objs m um) (hk:VRel C w Mut ρ objs key uk) {K:AV κ Ty→Option R} {r:R} (h:gd_ C objs (.map kt et k v) m key z K=some r):
    ∃u,K (.lit u)=some r∧(Instr.lookup t um uk false).run P w= .ok u w∧aL_ u=true:=by
  unfold gd_ at h
  obtain ⟨id,es,x,rfl,hid,rfl,hK⟩:=qn_ HC h
  clear h
  have h:=hK;clear hK
  have hum:=oS_ hid hm
  subst hum
  have hso:=S.ob id
  simp only [ORel,hid] at hso
  obtain ⟨mes,H⟩:=hso
  obtain ⟨hund,_⟩:=HT.map t ti kt et k v ht hs
  have hfk:=k5_ (w:=w) HT ht hs hk H
  have hck:=jC_ (w:=w) HT ht hs hk
  obtain ⟨zu,hz1,hz2,hz3⟩:=wu_ (w:=w) HT ht hs hte hz
  cases hz2
  simp only [Instr.lookup,Sem.run_bind,run_underlying hund,Result.andThen_ok,MapKept.run_getObj_map H.at_,hck,hfk,Sem.run_pure]
  cases hf:lU_ (C.keq k x) es 0 with
  | none=>
    rw [hf] at h
    refine ⟨z,h, ?_,hz3⟩
    simp [hz1]
  | some p=>
    rw [hf] at h
    obtain ⟨_,a,h2,_⟩:=hD_ hf
    rw [Nat.sub_zero] at h2
    obtain ⟨_,me,h3,_⟩:=H.key p.1 _ h2
    have hv:=H.val p.1 _ me h2 h3 (fun o h=>by cases h)
    simp only [optK] at h
    split at h
    ·rename_i u henc
     rw [henc] at hv
     refine ⟨u,h, ?_,hv.2.1⟩
     simp [h3,hv.1]
    ·cases h
theorem rk_ (HT:TOk P C T) (HC:aO_ C) (S:SRel C Mut Lent w0 ρ env objs tm w) {t kt et:TypeId} {ti te:TI κ Ty} {k v:κ} (ht:T t=some ti) (hs:ti.shp= .map kt et k v) (hte:T et=some te) {s:κ} (hz:te.zero=[.nil s])
    {m key:AV κ Ty} {um uk:Value} (hm:VRel C w Mut ρ objs m um) (hk:VRel C w Mut ρ objs key uk) {K:AV κ Ty→am_ κ Ty→Option R} {r:R} (h:ha_ C objs (.map kt et k v) m key s K=some r):
    ∃y objs' ρ' u,K y objs'=some r∧(Instr.lookup t um uk false).run P w= .ok u w∧SRel C Mut Lent w0 ρ' env objs' tm w∧VRel C w Mut ρ' objs' y u:=by
  unfold ha_ at h
  obtain ⟨ρ1,S,hrel⟩:=jm_ HC S (wN_ m)
  replace hm:=hrel _ _ hm
  replace hk:=hrel _ _ hk
  clear hrel
  generalize kv_ C (wN_ m) objs=objs at h S hm hk
  generalize ρ1=ρ at S hm hk
  dsimp only at h
  obtain ⟨id,es,x,rfl,hid,rfl,hK⟩:=qn_ HC h
  clear h
  have h:=hK;clear hK
  have hum:=oS_ hid hm
  subst hum
  have hso:=S.ob id
  simp only [ORel,hid] at hso
  obtain ⟨mes,H⟩:=hso
  obtain ⟨hund,_⟩:=HT.map t ti kt et k v ht hs
  have hfk:=k5_ (w:=w) HT ht hs hk H
  have hck:=jC_ (w:=w) HT ht hs hk
  obtain ⟨zu,hz1,hz2,hz3⟩:=wu_ (w:=w) HT ht hs hte hz
  cases hz2
  simp only [Instr.lookup,Sem.run_bind,run_underlying hund,Result.andThen_ok,MapKept.run_getObj_map H.at_,hck,hfk,Sem.run_pure]
  cases hf:lU_ (C.keq k x) es 0 with
  | none=>
    rw [hf] at h
    refine ⟨_,_,ρ,_,h, ?_,S, .nil (A:=none)⟩
    simp [hz1]
  | some p=>
    rw [hf] at h
    obtain ⟨_,a,h2,_⟩:=hD_ hf
    rw [Nat.sub_zero] at h2
    obtain ⟨_,me,h3,_⟩:=H.key p.1 _ h2
    obtain ⟨y,objs',ρ',g1,g2,g3⟩:=so_ S hid H h2 rfl h3 h
    refine ⟨y,objs',ρ',me.val,g1, ?_,g2,g3⟩
    simp [h3]
theorem MpRel.push {L:Loc} {k v:κ} {es:List (Ty k×Ty v)} {mes:Array MapEntry} (H:MpRel C w Mut ρ objs L k v es none mes) {x:Ty k} {y:Ty v} {key val:Value}
    (W:WStep w w' (aN_ ρ objs) (aN_ ρ' objs')) (hl:objs.length≤objs'.length) (hc:∀q,Compat ρ objs ρ' objs' q) (hheap:∀b,b≠L.block→w'.heap[b]? =w.heap[b]?)
    (hat:w'.heap[L.block]? =some (.map (mes.push {key:=key,val:=val,born:=mes.size}) (mes.size+1))) (hlit:∀c∈C.enc k x,∃v,c= .lit v) (hk:VRel C w Mut ρ objs (.agg (C.enc k x)) key) (hv:EntR C w' Mut ρ' objs' (0,0,0) (C.enc v y) val):
    MpRel C w' Mut ρ' objs' {L with sub:=fun q=>if q=es.length then (0,0,0) else L.sub q} k v (es++[(x,y)]) none (mes.push {key:=key,val:=val,born:=mes.size}):=by
  have hget:∀q e',(es++[(x,y)])[q]? =some e'→(q=es.length∧e'=(x,y))∨(q<es.length∧es[q]? =some e'):=fun q e' hq=>by
    by_cases e:q<es.length
    ·rw [List.getElem?_append_left e] at hq;exact .inr ⟨e,hq⟩
    ·have:=(List.getElem?_eq_some_iff.mp hq).1
     simp at this
     have e:q=es.length:=by omega
     subst e
     simp at hq;exact .inl ⟨rfl,hq.symm⟩
  have mget:∀q,q<es.length→(mes.push {key:=key,val:=val,born:=mes.size})[q]? =mes[q]? :=fun q hq=>by
    rw [Array.getElem?_push,if_neg (by rw [H.size];omega)]
  have mnew:(mes.push {key:=key,val:=val,born:=mes.size})[es.length]? =some {key:=key,val:=val,born:=mes.size}:=by
    rw [←H.size];simp
  refine ⟨by simp [H.size],by rw [hat];simp,fun q e' hq=> ?_,fun q e' me hq hm _=> ?_,fun q o me hq=>(by cases hq),fun q o hq=>(by cases hq),fun q hq _ hcap=> ?_,fun p q hp hq _ _ hcp hcq hpq=> ?_⟩
  ·rcases hget q e' hq with ⟨rfl,rfl⟩ | ⟨h1,h2⟩
   ·exact ⟨hlit,_,mnew,H.size,hk.step W hl hc⟩
   ·obtain ⟨g1,me,g2,g3,g4⟩:=H.key q e' h2
    exact ⟨g1,me,by rw [mget q h1];exact g2,g3,g4.step W hl hc⟩
  ·rcases hget q e' hq with ⟨rfl,rfl⟩ | ⟨h1,h2⟩
   ·rw [mnew] at hm;cases hm
    simp only [if_true];exact hv
   ·rw [mget q h1] at hm
    simp only [if_neg (Nat.ne_of_lt h1)]
    refine (H.val q e' me h2 hm (fun o h=>by cases h)).step W hl hc fun b hb1 hb2=>hheap b fun eb=> ?_
    exact H.own q h1 (fun o h=>by cases h) hb1 (by rw [hb2,eb])
  ·by_cases e:q=es.length
   ·simp [e] at hcap
   ·simp only [if_neg e] at hcap⊢
    simp at hq
    exact H.own q (by omega) (fun o h=>by cases h) hcap
  ·by_cases e:p=es.length
   ·simp [e] at hcp
   ·by_cases e':q=es.length
    ·simp [e'] at hcq
    ·simp only [if_neg e,if_neg e'] at hcp hcq hpq
     simp at hp hq
     exact H.disj p q (by omega) (by omega) (fun o h=>by cases h) (fun o h=>by cases h) hcp hcq hpq
theorem zx_ {r:Nat} {o:Obj} (h:w.heap[r]? =some o):({w with heap:=w.heap.setIfInBounds r o}:World)=w:=by
  have:w.heap.setIfInBounds r o=w.heap:=by
    apply Array.ext_getElem?
    intro i
    rw [Array.getElem?_setIfInBounds]
    split
    ·rename_i e;subst e
     split
     ·exact h.symm
     ·rename_i hn;rw [Array.getElem?_eq_none (by omega)]
    ·rfl
  rw [this]
theorem qr_ (HT:TOk P C T) (HC:aO_ C) (S:SRel C Mut Lent w0 ρ env objs tm w) {t kt et:TypeId} {ti te:TI κ Ty} {k v:κ} (ht:T t=some ti) (hs:ti.shp= .map kt et k v) (hte:T et=some te)
    {m key:AV κ Ty} {um uk:Value} (hm:VRel C w Mut ρ objs m um) (hk:VRel C w Mut ρ objs key uk) {K:AV κ Ty→am_ κ Ty→Option R} {r:R} (h:fI_ C objs (.map kt et k v) m key te K=some r):
    ∃y objs' ρ' u w',K y objs'=some r∧(Instr.mapEntry t um uk).run P w= .ok u w'∧SRel C Mut Lent w0 ρ' env objs' tm w'∧VRel C w' Mut ρ' objs' y u:=by
  unfold fI_ at h
  obtain ⟨ρ1,S,hrel⟩:=jm_ HC S (wN_ m)
  replace hm:=hrel _ _ hm
  replace hk:=hrel _ _ hk
  clear hrel
  generalize kv_ C (wN_ m) objs=objs at h S hm hk
  generalize ρ1=ρ at S hm hk
  dsimp only at h
  obtain ⟨id,es,x,rfl,hid,rfl,hK⟩:=qn_ HC h
  clear h
  have h:=hK;clear hK
  have hum:=oS_ hid hm
  subst hum
  have hso:=S.ob id
  simp only [ORel,hid] at hso
  obtain ⟨mes,H⟩:=hso
  obtain ⟨hund,_,_,hlits,_⟩:=HT.map t ti kt et k v ht hs
  have hlit:∀c∈C.enc k x,∃v,c= .lit v:=fun c hc=>by
    rcases hlits x c hc with ⟨q,n,rfl⟩ | ⟨s,rfl⟩<;>exact ⟨_,rfl⟩
  have hfk:=k5_ (w:=w) HT ht hs hk H
  have hck:=jC_ (w:=w) HT ht hs hk
  simp only [Instr.mapEntry,Sem.run_bind,run_underlying hund,Result.andThen_ok,MapKept.run_getObj_map H.at_,hck,hfk,Sem.run_pure]
  cases hf:lU_ (C.keq k x) es 0 with
  | none=>
    rw [hf] at h
    simp only [optK] at h
    split at h
    ·rename_i z y hz hdec
     obtain ⟨zu,hz1,hz2,hz3⟩:=wu_ (w:=w) HT ht hs hte hz
     simp only [Option.map_none,Sem.run_bind,hz1,Result.andThen_ok,MapKept.run_setObj_map _ H.at_,Sem.run_pure]
     have hset:=MapKept.heap_set (o':= .map (mes.push {key:=uk,val:=zu,born:=mes.size}) (mes.size+1)) H.at_
     have hent:∀(w':World) (ρ':Nat→Loc) (objs':am_ κ Ty),EntR C w' Mut ρ' objs' (0,0,0) (C.enc v y) zu:=fun w' ρ' objs'=>by
       rw [HC.dec _ _ _ hdec,hz]
       cases z with
       | lit z0=>cases hz2;exact ⟨rfl,hz3,rfl⟩
       | nil s=>cases hz2;exact ⟨none,rfl,fun h=>absurd rfl h,Nat.le_refl _,fun h=>absurd rfl h,fun i x j cl hx=>by simp at hx,fun q hq=>by simp at hq⟩
       | _=>simp [CX_] at hz2
     obtain ⟨S',hrel⟩:=S.mpset (w':={w with heap:=w.heap.setIfInBounds (ρ id).block (.map (mes.push {key:=uk,val:=zu,born:=mes.size}) (mes.size+1))}) hid (objs1:=objs) (.refl objs) rfl
       (es':=es++[(x,y)]) (h':=none) (sub':=fun q=>if q=es.length then (0,0,0) else (ρ id).sub q) (fun b hb=>hset.2 b hb) (by simp) rfl rfl rfl
       (fun q hq _ hcap=>by
         by_cases e:q=es.length
         ·simp [e] at hcap
         ·simp only [if_neg e] at hcap⊢
          simp at hq
          refine .inl ?_
          unfold ah_;rw [hid];exact .inr ⟨q,by omega,fun o h=>(by cases h),hcap,rfl⟩)
       (fun W hl hc=>⟨_,H.push W hl hc (fun b hb=>hset.2 b hb) hset.1 hlit hk (hent _ _ _)⟩)
     refine ⟨_,_,_,_,_,h,rfl,S', ?_⟩
     refine .tup (us:=[zu,goInt mes.size]) (by simp) (fun j cl u hj hu=> ?_)
     cases j with
     | zero=>
       simp at hj hu;subst hj;subst hu
       cases z with
       | lit z0=>cases hz2;exact .lit hz3
       | nil s=>cases hz2;exact .nil
       | _=>simp [CX_] at hz2
     | succ j=>
       cases j with
       | zero=>simp at hj hu;subst hj;subst hu;rw [H.size];exact .lit rfl
       | succ j=>simp at hj
    ·cases h
  | some p=>
    rw [hf] at h
    simp only [optK] at h
    obtain ⟨_,a,h2,h2'⟩:=hD_ hf
    rw [Nat.sub_zero] at h2
    have hxa:=HC.keq _ _ _ h2'
    subst hxa
    obtain ⟨_,me,h3,h4,h5⟩:=H.key p.1 _ h2
    have hke:me.key=uk:=Ct_ hlit h5 hk
    have hsb:Instr.sameBits 10000 uk uk=true:=s6_ (hlits x) hk 9999
    obtain ⟨y,objs',ρ',g1,g2,g3⟩:=so_ S hid H h2 rfl h3 h
    have hmod:mes.modify p.1 (fun e=>{e with key:=uk})=mes:=by
      apply Array.ext_getElem?
      intro i
      rw [Array.getElem?_modify]
      split
      ·rename_i e;subst e;rw [h3];simp [←hke]
      ·rfl
    refine ⟨_,objs',ρ', .tuple #[me.val,goInt p.1],w,g1, ?_,g2, ?_⟩
    ·simp only [Option.map_some,h3,Option.getD_some,hke,Instr.keyThatStays,hsb,if_true,Sem.run_bind,Sem.run_pure,Result.andThen_ok,MapKept.run_setObj_map _ H.at_,hmod,h4,zx_ H.at_]
    ·refine .tup (us:=[me.val,goInt p.1]) (by simp) (fun j cl u hj hu=> ?_)
     cases j with
     | zero=>simp at hj hu;subst hj;subst hu;exact g3
     | succ j=>
       cases j with
       | zero=>simp at hj hu;subst hj;subst hu;exact .lit rfl
       | succ j=>simp at hj
theorem A3_ {mes:Array MapEntry} (hb:∀(q:Nat) me,mes[q]? =some me→me.born=q) {n:Nat} (hn:n<mes.size):mes.findIdx? (fun e=>(e.born:Int)==(n:Int))=some n:=by
  rw [Array.findIdx?_eq_some_iff_getElem]
  refine ⟨hn, ?_,fun j hj=> ?_⟩
  ·rw [hb n _ (Array.getElem?_eq_getElem hn)];simp
  ·rw [hb j _ (Array.getElem?_eq_getElem (by omega))];simp;omega
theorem SRel.mpstore (S:SRel C Mut Lent w0 ρ env objs tm w) {id:Nat} {k v:κ} {es:List (Ty k×Ty v)} {h:Option (Nat×Option Nat)} (hid:objs[id]? =some (.mp k v es h)) {mes:Array MapEntry} (H:MpRel C w Mut ρ objs (ρ id) k v es h mes)
    {n:Nat} {e:Ty k×Ty v} (he:es[n]? =some e) (hh:∀i o,h=some (i,o)→i=n) {y:Ty v} {u:Value} {L':Nat×Nat×Nat} (hw:Weaker objs objs1) (hid1:objs1[id]? =objs[id]?)
    (hfoot:L'.2.2≠0→∃j,objs1[j]? =some .dead∧j≠id∧ah_ ρ objs j L'.1)
    (hv:∀(w':World) (ρ':Nat→Loc) (objs':am_ κ Ty),WStep w w' (aN_ ρ objs) (aN_ ρ' objs')→objs.length≤objs'.length→(∀q,Compat ρ objs ρ' objs' q)→(∀b,b≠(ρ id).block→w'.heap[b]? =w.heap[b]?)→EntR C w' Mut ρ' objs' L' (C.enc v y) u):
    ∃ρ',SRel C Mut Lent w0 ρ' env (objs1.set id (.mp k v (es.set n (e.1,y)) none)) tm {w with heap:=w.heap.setIfInBounds (ρ id).block (.map (mes.modify n fun e=>{e with val:=u}) mes.size)}:=by
  have hset:=MapKept.heap_set (o':= .map (mes.modify n fun e=>{e with val:=u}) mes.size) H.at_
  have hfi:∀q,q<es.length→(∀o,h≠some (q,o))→((ρ id).sub q).2.2≠0→ah_ ρ objs id ((ρ id).sub q).1:=fun q h1 h2 h3=>by
    unfold ah_;rw [hid];exact .inr ⟨q,h1,h2,h3,rfl⟩
  have hfb:ah_ ρ objs id (ρ id).block:=by unfold ah_;rw [hid];exact .inl rfl
  refine ⟨_,(S.mpset (w':={w with heap:=w.heap.setIfInBounds (ρ id).block (.map (mes.modify n fun e=>{e with val:=u}) mes.size)}) hid hw hid1 (es':=es.set n (e.1,y)) (h':=none) (sub':=fun q=>if q=n then L' else (ρ id).sub q)
    (fun b hb=>hset.2 b hb) (by simp) rfl rfl rfl (fun q hq _ hcap=> ?_) (fun W hl hc=>⟨_,H.put (mes':=mes.modify n fun e=>{e with val:=u}) he hh (val:=u) W hl hc (fun b hb=>hset.2 b hb) (by rw [hset.1];simp) (by simp) (fun q hq=> ?_) (fun me hme=> ?_) (hv _ _ _ W hl hc (fun b hb=>hset.2 b hb)) (fun q hq hqn hn hcq hcj eb=> ?_) (fun hcj eb=> ?_)⟩)).1⟩
  ·by_cases e1:q=n
   ·subst e1
    simp only [if_true] at hcap⊢
    obtain ⟨j,j1,_,j3⟩:=hfoot hcap
    exact .inr ⟨j,j1,j3⟩
   ·simp only [if_neg e1] at hcap⊢
    simp only [List.length_set] at hq
    exact .inl (hfi q hq (fun o ho=>e1 (hh _ _ ho)) hcap)
  ·rw [Array.getElem?_modify,if_neg (Ne.symm hq)]
  ·exact ⟨{me with val:=u},by rw [Array.getElem?_modify,if_pos rfl,hme];rfl,rfl,rfl,rfl⟩
  ·obtain ⟨j,_,j2,j3⟩:=hfoot hcj
   have h1:=hfi q hq hn hcq
   rw [eb] at h1
   exact j2 (S.inj _ _ _ j3 h1)
  ·obtain ⟨j,_,j2,j3⟩:=hfoot hcj
   rw [eb] at j3
   exact j2 (S.inj _ _ _ j3 hfb)
theorem mG_ (HT:TOk P C T) (HC:aO_ C) (S:SRel C Mut Lent w0 ρ env objs tm w) {t kt et:TypeId} {ti:TI κ Ty} {k v:κ} (ht:T t=some ti) (hs:ti.shp= .map kt et k v)
    {m stamp x:AV κ Ty} {um us ux:Value} (hm:VRel C w Mut ρ objs m um) (hst:VRel C w Mut ρ objs stamp us) (hx:VRel C w Mut ρ objs x ux) {K:am_ κ Ty→Option R} {r:R} (h:dk_ C objs ti.shp m stamp x K=some r):
    ∃objs' ρ' w',K objs'=some r∧(Instr.entryStore t um us ux).run P w= .ok () w'∧SRel C Mut Lent w0 ρ' env objs' tm w':=by
  unfold dk_ at h
  split at h
  ·rename_i kt' et' k0 v0 id kk n hsh
   split at h
   ·rename_i k' v' es hh hid
    split at h
    ·rename_i hsame
     have hum:=oS_ hid hm
     subst hum
     obtain ⟨rfl,_⟩:=aU_ hst
     have hso:=S.ob id
     simp only [ORel,hid] at hso
     obtain ⟨mes,H⟩:=hso
     have key:∀{e:Ty k'×Ty v'},idx es n=some e→(∀i o,hh=some (i,o)→i=n.toNat)→rd_ C objs v' x (fun y objs=>K (objs.set id (.mp k' v' (es.set n.toNat (e.1,y)) none)))=some r→
      ∃objs' ρ' w',K objs'=some r∧(Instr.entryStore t (.map (some (ρ id).block)) (.int kk n) ux).run P w= .ok () w'∧SRel C Mut Lent w0 ρ' env objs' tm w':=by
       intro e he hho hput
       clear h
       have h:=hput
       clear hput
       have hn0:0≤n:=by
         unfold idx at he;split at he
         ·cases he
         ·omega
       have he':es[n.toNat]? =some e:=by
         unfold idx at he;rw [if_neg (by omega)] at he;exact he
       have hlt:n.toNat<mes.size:=by rw [H.size];exact (List.getElem?_eq_some_iff.mp he').1
       have hrun:(Instr.entryStore t (.map (some (ρ id).block)) (.int kk n) ux).run P w= .ok () {w with heap:=w.heap.setIfInBounds (ρ id).block (.map (mes.modify n.toNat fun e=>{e with val:=ux}) mes.size)}:=by
         have hfb:=A3_ (mes:=mes) (fun q me hq=>by
           have hql:q<es.length:=by rw [←H.size];exact (Array.getElem?_eq_some_iff.mp hq).1
           obtain ⟨_,me',g1,g2,_⟩:=H.key q _ (List.getElem?_eq_getElem hql)
           rw [hq] at g1;cases g1;exact g2) hlt
         rw [show ((n.toNat:Nat):Int)=n by omega] at hfb
         simp only [Instr.entryStore,Sem.run_bind,MapKept.run_getObj_map H.at_,Result.andThen_ok,asInt,asIntOf,Sem.run_pure,hfb,MapKept.run_setObj_map _ H.at_]
       unfold rd_ at h
       split at h
       ·rename_i u0
        split at h
        ·rename_i y hdec
         obtain ⟨rfl,hcell⟩:=aU_ hx
         obtain ⟨ρ',S'⟩:=S.mpstore hid H he' hho (y:=y) (u:=ux) (L':=(0,0,0)) (.refl objs) rfl (fun h=>absurd rfl h) (fun w' ρ' objs' _ _ _ _=>by
           rw [HC.dec _ _ _ hdec];exact ⟨rfl,hcell,rfl⟩)
         exact ⟨_,ρ',_,h,hrun,S'⟩
        ·cases h
       ·rename_i j
        split at h
        ·rename_i s xs hsl
         split at h
         ·rename_i y hdec
          have hsl':=a7_ hsl
          have hji:j≠id:=fun e=>by rw [e,hid] at hsl';cases hsl'
          have hjl:=(List.getElem?_eq_some_iff.mp hsl').1
          have hjo:=S.ob j
          simp only [ORel,hsl'] at hjo
          have hjo:SlAt C w Mut ρ objs (ρ j).block (ρ j).off (ρ j).cap s xs:=hjo
          obtain ⟨A,h1,h2⟩:=uy_ hsl' hx
          obtain ⟨ρ',S'⟩:=S.mpstore hid H he' hho (y:=y) (u:=ux) (L':=((ρ j).block,(ρ j).off,(ρ j).cap)) (.kill objs j) (List.getElem?_set_ne hji) (fun hc=>⟨j,by simp [hjl],hji,bD_ hsl' hc⟩) (fun w' ρ' objs' W hl hc hheap=>by
            rw [HC.dec _ _ _ hdec]
            refine ⟨A,h1,h2,hjo.step W hl hc fun hcap=>hheap _ fun e=> ?_⟩
            have hf:=bD_ hsl' hcap
            dsimp only at e
            rw [e] at hf
            exact hji (S.inj _ _ _ hf (by unfold ah_;rw [hid];exact .inl rfl)))
          exact ⟨_,ρ',_,h,hrun,S'⟩
         ·cases h
        ·cases h
       ·cases h
     split at h
     ·obtain ⟨e,he,h⟩:=bind_some h
      exact key he (fun i o ho=>by cases ho) h
     ·rename_i i o
      split at h
      ·rename_i hb
       obtain ⟨e,he,h⟩:=bind_some h
       exact key he (fun i' o' ho=>by cases ho;exact Nat.eq_of_beq_eq_true hb) h
      ·cases h
    ·cases h
   ·cases h
  ·cases h
end
end Km
