/- A part of the proof of FnExactSession: plain laws of these functions. There is no condition. -/
import Derived.Test.YtgffmpjadffjkaaGreatDoorKyPureExactSession1
import Derived.Test.YtgffmpjadffjkaaGreatDoorKxDef3
import Derived.Test.YtgffmpjadffjkaaGreatDoorKxDef2
set_option linter.unusedVariables false
set_option linter.unusedSimpArgs false
namespace Km.X
open Go Km
def V5 (q:Int) (p:bV):List aP→Option (List aP)
  | []=>some [⟨q,p⟩]
  | x::t=>if x.Seq=q then none else if q<x.Seq then some (⟨q,p⟩::x::t) else (V5 q p t).map (x:: ·)
def TG (t:aM) (q:Int) (p:bV):aM:=
  if VTake t then
   if (t.Next≤q∧q≤t.Next+7∧q≤999999)∧p.Text.size≤20 then (match V5 q p t.Held with | none=>t | some h=>vI h t.Next t.Open t.Ready)
   else t
  else A3
def SmH (h:List aP):Prop:=∀x∈h,x.Seq≤999999∧x.Part.Text.size≤1000
theorem SC (c:Int) (e:ByteArray) (h h2:List aP) (r2:List ByteArray) (hh:List aP) (n:Int) (o:ByteArray) (r:List ByteArray) (hl:h.length≤100) (hs:SmH h) (hn:0≤n) (ho:o.size≤200) (hr:r.length≤4):
    Wp (fun k=>gQ k c e n o h h2 r2 hh r) (· =vI h n o r):=by
  refine Wp.step ?_
  simp only [gQ]
  refine Wp.bind (I0 _ hl hs hn ho hr) (fun _ q=> ?_);subst q
  exact Wp.ret rfl
theorem cT_ (q:Int) (p:bV) (c n1:Int) (e o1:ByteArray) (r1:List ByteArray) (h2:List aP) (r2:List ByteArray) (hh:List aP) (n:Int) (o:ByteArray) (r:List ByteArray) (hn:0≤n) (ho:o.size≤200) (hr:r.length≤4):∀(t pre acc:List aP),(pre++t).length≤100→acc.length+t.length≤100→(∀x∈t,q<x.Seq)→SmH acc→SmH t→
    Wp (fun k=>cV k q true (pre.length:Int) n1 (pre++t) o1 r1 p.Text p.Last c e n o acc h2 r2 hh r) (· =vI (acc++t) n o r)
  | [],pre,acc,hl,ha,hq,hs,hs'=>by
    refine Wp.step ?_
    simp only [cV,List.append_nil]
    have hn':¬(pre.length:Int)<(pre.length:Int):=by omega
    simp only [aL,if_neg hn',Bool.not_true,cond_false]
    exact SC _ _ _ _ _ _ _ _ _ (by simpa using ha) hs hn ho hr
  | x::t,pre,acc,hl,ha,hq,hs,hs'=>by
    refine Wp.step ?_
    have hl':=hl
    simp only [List.length_append,List.length_cons] at hl ha
    have hx:=hq x (List.mem_cons_self ..)
    have hne:¬x.Seq=q:=by omega
    simp only [cV]
    simp only [aL,hP,if_true,bJ,Option.bind_some,lW,if_neg hne,Bool.not_true,cond_false]
    refine Wp.step ?_
    simp only [dP,bJ,Option.bind_some]
    refine Wp.opt (bI (by simp;omega)) ?_
    simp (disch:=omega) only [bR]
    have ih:=cT_ q p c n1 e o1 r1 h2 r2 hh n o r hn ho hr t (pre++[x]) (acc++[x]) (by simpa using hl') (by simp;omega) (fun y hy=>hq y (List.mem_cons_of_mem _ hy)) (fun y hy=>by
      rcases List.mem_append.mp hy with hy | hy
      ·exact hs y hy
      ·simp only [List.mem_singleton] at hy;subst hy;exact hs' y (List.mem_cons_self ..)) (fun y hy=>hs' y (List.mem_cons_of_mem _ hy))
    rw [←cK,←bS] at ih
    simp only [List.append_assoc,List.cons_append,List.nil_append] at ih
    exact ih
theorem B4 {a:List aP} {x:aP} (h:SmH a) (hx:x.Seq≤999999∧x.Part.Text.size≤1000):SmH (a++[x]):=fun y hy=>by
  rcases List.mem_append.mp hy with hy | hy
  ·exact h y hy
  ·simp only [List.mem_singleton] at hy;subst hy;exact hx
theorem am_ (q:Int) (p:bV) (hq:q≤999999) (hp:p.Text.size≤20) (c n1:Int) (e o1:ByteArray) (r1:List ByteArray) (h2:List aP) (r2:List ByteArray) (hh:List aP) (n:Int) (o:ByteArray) (r:List ByteArray) (hn:0≤n) (ho:o.size≤200) (hr:r.length≤4):∀(t pre:List aP) (b:Int),(pre++t).length≤50→WHs n1 b t→SmH pre→SmH t→
    Wp (fun k=>cV k q false (pre.length:Int) n1 (pre++t) o1 r1 p.Text p.Last c e n o pre h2 r2 hh r) (· =match V5 q p t with | none=>⟨n,hh,o,r⟩ | some h=>vI (pre++h) n o r)
  | [],pre,b,hl,hw,hs,hs'=>by
    refine Wp.step ?_
    simp only [cV,List.append_nil,V5]
    rw [List.append_nil] at hl
    have hn':¬(pre.length:Int)<(pre.length:Int):=by omega
    simp only [aL,if_neg hn',Bool.not_false,cond_true]
    refine Wp.opt (bI (by simp;omega)) ?_
    exact SC _ _ _ _ _ _ _ _ _ (by simp;omega) (B4 hs ⟨hq,by simp only;omega⟩) hn ho hr
  | x::t,pre,b,hl,⟨hw1,hw2⟩,hs,hs'=>by
    refine Wp.step ?_
    have hl':=hl
    simp only [List.length_append,List.length_cons] at hl
    have hx:=hs' x (List.mem_cons_self ..)
    have hs2:SmH t:=fun y hy=>hs' y (List.mem_cons_of_mem _ hy)
    simp only [cV,V5]
    simp only [aL,hP,if_true,bJ,Option.bind_some,lW,Bool.not_false,cond_true]
    refine Wp.ite (fun h1=>Wp.ret (by rw [if_pos h1])) (fun h1=> ?_)
    rw [if_neg h1]
    refine Wp.ite (fun h3=> ?_) (fun h3=> ?_)
    ·rw [if_pos (by omega)]
     refine Wp.opt (bI (by simp;omega)) ?_
     refine Wp.step ?_
     simp only [dP,bJ,Option.bind_some]
     refine Wp.opt (bI (by simp;omega)) ?_
     simp (disch:=omega) only [bR]
     have:=cT_ q p c n1 e o1 r1 h2 r2 hh n o r hn ho hr t (pre++[x]) (pre++[⟨q,p⟩]++[x]) (by simp;omega) (by simp;omega) (fun y hy=>by have:=ZS hw2 y hy;omega) (B4 (B4 hs ⟨hq,by simp only;omega⟩) hx) hs2
     rw [←cK,←bS] at this
     simp only [List.append_assoc,List.cons_append,List.nil_append] at this⊢
     exact this
    ·rw [if_neg (by omega)]
     refine Wp.step ?_
     simp only [dP,bJ,Option.bind_some]
     refine Wp.opt (bI (by simp;omega)) ?_
     simp (disch:=omega) only [bR]
     have ih:=am_ q p hq hp c n1 e o1 r1 h2 r2 hh n o r hn ho hr t (pre++[x]) x.Seq (by simpa using hl') hw2 (B4 hs hx) hs2
     rw [←cK,←bS] at ih
     refine ih.mono fun v hv=> ?_
     rw [hv]
     cases V5 q p t<;>simp
theorem U9 (t:aM) (q:Int) (p:bV):Wp (fun k=>pM k t q p) (· =TG t q p):=by
  unfold pM TG
  refine Wp.bind (lU t) (fun _ e=> ?_);subst e
  simp only [b9,aL]
  refine Wp.ite (fun h=> ?_) (fun h=>Wp.ret (by rw [if_neg h]))
  rw [if_pos h]
  have hsm:=h.small
  obtain ⟨h1,h2,h3,h4,h5,h6,h7⟩:=h
  refine Wp.bind (B9 t (by omega) (by omega)) (fun r2 e=> ?_);rw [e]
  obtain ⟨n,hd,o,r⟩:=t
  refine Wp.bind (as_ n q hd o r h1) (fun _ e=> ?_);subst e
  simp only [aL]
  refine Wp.ite (fun g=> ?_) (fun g=>Wp.ret (by rw [if_neg (fun w=>g w.1)]))
  refine Wp.ite (fun g2=>Wp.ret (by rw [if_neg (fun w=>by have:=w.2;omega)])) (fun g2=> ?_)
  rw [if_pos ⟨g,by omega⟩]
  exact am_ q p g.2.2 (by omega) _ n _ o r _ _ hd n o r h1.1 h3 h4 hd [] (n-1) (by simp only at h2;simp;omega) h6 (fun y hy=>by simp at hy) hsm
theorem dr_ (pre s:List aP) (z:aP):∃w,cpy (pre++s++[z]) (pre.length+1) (pre.length+s.length+1) (iF (pre++s++[z]) pre.length (pre.length+s.length+1))=pre++w::s:=by
  have e0:iF (pre++s++[z]) pre.length (pre.length+s.length+1)=s++[z]:=by
    simp only [iF]
    rw [List.take_of_length_le (by simp;omega),List.append_assoc,List.drop_left']
    rfl
  rw [e0]
  unfold cpy
  rw [show pre.length+s.length+1-(pre.length+1)=s.length by omega]
  have e1:(s++[z]).take s.length=s:=by simp
  have e2:(pre++s++[z]).drop (pre.length+1+min s.length (s++[z]).length)=[]:=by
    apply List.drop_eq_nil_of_le;simp;omega
  rw [e1,e2,List.append_nil]
  cases s with
  | nil=>exact ⟨z,by rw [List.append_nil,List.take_of_length_le (by simp)];simp⟩
  | cons w s=>exact ⟨w,by simp [List.take_append,List.take_of_length_le]⟩
theorem cW_ (q:Int) (p:bV) (n:Int) (o:ByteArray) (r:List ByteArray) (hn:0≤n) (ho:o.size≤200) (hr:r.length≤4) (pre s:List aP) (hl:(pre++s).length≤50) (hs:SmH (pre++⟨q,p⟩::s)):
    Wp (fun k=>(app 32 (pre++s) ([(⟨0,(⟨(⟨#[]⟩:ByteArray),false⟩:bV)⟩:aP)]:List aP)).bind fun l6=>
            (wnd l6.length (IntKind.wrap .i64 ((pre.length:Int)+1)) (l6.length:Int)).bind fun p7=>
            (wnd l6.length (pre.length:Int) (l6.length:Int)).bind fun p8=>
            (idx (cpy l6 p7.1 p7.2 (iF l6 p8.1 p8.2)) (pre.length:Int)).bind fun _=>
            ((cpy l6 p7.1 p7.2 (iF l6 p8.1 p8.2))[(Int.toNat (pre.length:Int))]?).bind fun y9=>
            (nE k (⟨n,((cpy l6 p7.1 p7.2 (iF l6 p8.1 p8.2)).set (Int.toNat (pre.length:Int)) (⟨q,p⟩:aP)),o,r⟩:aM)).bind fun r10=>
            some r10) (· =vI (pre++⟨q,p⟩::s) n o r):=by
  simp only [List.length_append] at hl
  refine Wp.opt (bI (by simp;omega)) ?_
  rw [bR (by omega) (by omega)]
  have hN:(pre++s++[(⟨0,(⟨(⟨#[]⟩:ByteArray),false⟩:bV)⟩:aP)]).length=pre.length+s.length+1:=by simp;omega
  rw [hN]
  refine Wp.opt (dF (by omega)) ?_
  refine Wp.opt (dF (by omega)) ?_
  dsimp only
  simp only [show ((pre.length:Int)+1).toNat=pre.length+1 by omega,Int.toNat_natCast]
  obtain ⟨w,e⟩:=dr_ pre s (⟨0,(⟨(⟨#[]⟩:ByteArray),false⟩:bV)⟩:aP)
  rw [e]
  simp only [bJ,Option.bind_some]
  have e2:(pre++w::s)[pre.length]? =some w:=by simp
  have e3:(pre++w::s).set pre.length (⟨q,p⟩:aP)=pre++⟨q,p⟩::s:=by simp
  simp only [e2,e3,Option.bind_some]
  refine Wp.bind (JI ⟨n,pre++⟨q,p⟩::s,o,r⟩ (by simp;omega) hs hn ho hr) (fun _ q=> ?_);subst q
  exact Wp.ret rfl
theorem bB_ (q:Int) (p:bV) (hq:q≤999999) (hp:p.Text.size≤20) (c:Int) (e:ByteArray) (h2:List aP) (r2:List ByteArray) (n:Int) (o:ByteArray) (r:List ByteArray) (n1:Int) (hn:0≤n) (ho:o.size≤200) (hr:r.length≤4):∀(t pre:List aP) (b:Int),(pre++t).length≤50→WHs n1 b t→SmH pre→SmH t→
    Wp (fun k=>fM k q (pre.length:Int) p.Text p.Last c e n o h2 r2 (pre++t) r) (· =match V5 q p t with | none=>⟨n,pre++t,o,r⟩ | some h=>vI (pre++h) n o r)
  | [],pre,b,hl,hw,hs,hs'=>by
    refine Wp.step ?_
    simp only [fM,V5]
    have hn':¬(pre.length:Int)<((pre++[]).length:Int):=by simp
    simp only [aL,if_neg hn']
    exact cW_ q p n o r hn ho hr pre [] hl (by
      intro y hy
      rcases List.mem_append.mp hy with hy | hy
      ·exact hs y hy
      ·simp only [List.mem_singleton] at hy;subst hy;exact ⟨hq,by simp only;omega⟩)
  | x::t,pre,b,hl,⟨hw1,hw2⟩,hs,hs'=>by
    refine Wp.step ?_
    have hl':=hl
    simp only [List.length_append,List.length_cons] at hl
    have hx:=hs' x (List.mem_cons_self ..)
    have hs2:SmH t:=fun y hy=>hs' y (List.mem_cons_of_mem _ hy)
    simp only [fM,V5]
    simp only [aL,hP,if_true,bJ,jQ,Option.bind_some,lW]
    refine Wp.ite (fun h1=> ?_) (fun h1=> ?_)
    ·rw [if_neg (by omega),if_neg (by omega)]
     simp (disch:=omega) only [bR]
     have ih:=bB_ q p hq hp c e h2 r2 n o r n1 hn ho hr t (pre++[x]) x.Seq (by simpa using hl') hw2 (B4 hs hx) hs2
     rw [←cK,←bS] at ih
     refine ih.mono fun v hv=> ?_
     rw [hv]
     cases V5 q p t<;>simp
    ·refine Wp.ite (fun h2=>Wp.ret (by rw [if_pos h2])) (fun h2=> ?_)
     rw [if_neg h2,if_pos (by omega)]
     exact cW_ q p n o r hn ho hr pre (x::t) hl' (by
       intro y hy
       rcases List.mem_append.mp hy with hy | hy
       ·exact hs y hy
       ·rcases List.mem_cons.mp hy with rfl | hy
        ·exact ⟨hq,by simp only;omega⟩
        ·exact hs' y hy)
theorem UI (t:aM) (q:Int) (p:bV):Wp (fun k=>pP k t q p) (· =TG t q p):=by
  unfold pP TG
  refine Wp.bind (lT t) (fun _ e=> ?_);subst e
  simp only [b9,aL]
  refine Wp.ite (fun h=> ?_) (fun h=>Wp.ret (by rw [if_neg h]))
  rw [if_pos h]
  have hsm:=h.small
  obtain ⟨h1,h2,h3,h4,h5,h6,h7⟩:=h
  refine Wp.bind (IZ t (by omega) (by omega)) (fun r2 e=> ?_);rw [e]
  obtain ⟨n,hd,o,r⟩:=t
  simp only at h1 h2 h3 h4
  rw [bR (n:=n+8) (by omega) (by omega),bR (n:=n+8-1) (by omega) (by omega)]
  refine Wp.bind (BD _ _ _) (fun _ e=> ?_);subst e
  simp only [inB,aL]
  refine Wp.ite (fun g=> ?_) (fun g=>Wp.ret (by rw [if_neg (fun w=>by have:=w.1;omega)]))
  refine Wp.ite (fun g1=>Wp.ret (by rw [if_neg (fun w=>by have:=w.1;omega)])) (fun g1=> ?_)
  refine Wp.ite (fun g2=>Wp.ret (by rw [if_neg (fun w=>by have:=w.2;omega)])) (fun g2=> ?_)
  rw [if_pos ⟨by omega,by omega⟩]
  exact bB_ q p (by omega) (by omega) _ _ _ _ n o r n h1.1 h3 h4 hd [] (n-1) (by simp;omega) h6 (fun y hy=>by simp at hy) hsm
theorem cQ_ {n:Int} (q:Int) (p:bV) (hq:q≤n+7) (hq':q≤999999) (hp:p.Text.size≤20):∀{t h:List aP} {b:Int},b<q→WHs n b t→V5 q p t=some h→WHs n b h
  | [],h,b,hb,hw,e=>by
    simp only [V5,Option.some.injEq] at e;subst e
    exact ⟨⟨hb,hq,hq',hp⟩,trivial⟩
  | x::t,h,b,hb,⟨hw1,hw2⟩,e=>by
    simp only [V5] at e
    split at e
    ·cases e
    ·split at e
     ·simp only [Option.some.injEq] at e;subst e
      exact ⟨⟨hb,hq,hq',hp⟩,⟨by omega,hw1.2⟩,hw2⟩
     ·cases ht:V5 q p t with
      | none=>rw [ht] at e;cases e
      | some h'=>
        rw [ht] at e
        simp only [Option.map_some,Option.some.injEq] at e;subst e
        exact ⟨hw1,cQ_ q p hq hq' hp (by omega) hw2 ht⟩
theorem ZX {n:Int}:∀{l:List aP} {b:Int},WHs n b l→b≤n+7→(l.length:Int)≤n+7-b
  | [],b,_,h=>by simp only [List.length_nil];omega
  | x::t,b,⟨h1,h2⟩,h=>by
    have:=ZX h2 h1.2.1
    simp only [List.length_cons];omega
theorem ei_ (t:aM) (q:Int) (p:bV):VTake (TG t q p):=by
  unfold TG
  split
  ·rename_i h
   split
   ·rename_i g
    cases ht:V5 q p t.Held with
    | none=>exact h
    | some hh=>
      obtain ⟨h1,h2,h3,h4,h5,h6,h7⟩:=h
      have hw:=cQ_ q p g.1.2.1 g.1.2.2 g.2 (by omega) h6 ht
      have hlen:=ZX hw (by omega)
      exact NY t.Next hh t.Next t.Open t.Ready (Int.le_refl _) hw (by omega) h1.1 h1.2 h3 h4 h5
   ·exact h
  ·exact CQ
def RN (p:aE):Prop:=
  (1≤p.From∧p.From≤2)∧(1≤p.Mine∧p.Mine≤1000)∧(0≤p.Yours∧p.Yours≤1000)∧
  ((p.Kind=1∧(0≤p.Next∧p.Next≤1000000)∧(0≤p.Mask∧p.Mask≤255)∧p.Seq=0∧p.Last=false∧p.Part=noB)∨
   (p.Kind=2∧p.Next=0∧p.Mask=0∧(0≤p.Seq∧p.Seq≤999999)∧p.Part.size≤20))
instance (p:aE):Decidable (RN p):=by unfold RN;infer_instance
theorem k9 (p:aE):Wp (fun k=>cG k p) (· =decide (RN p)):=by
  unfold cG
  have key:(p.From=1∨p.From=2)→Wp (fun k=>
    (bP k p.Mine 1 1000).bind fun r6=>
    bif (!r6) then
      some false
    else
      (bP k p.Yours 0 1000).bind fun r7=>
      bif (!r7) then
        some false
      else
        bif (p.Kind==1) then
          (bP k p.Next 0 1000000).bind fun r8=>
          bif r8 then
            (bP k p.Mask 0 255).bind fun r9=>
            bif r9 then
              bif (p.Seq==0) then
                bif (!p.Last) then
                  some (p.Part.toList==(⟨#[]⟩:ByteArray).toList)
                else
                  some false
              else
                some false
            else
              some false
          else
            some false
        else
          bif (p.Kind==2) then
            bif (p.Next==0) then
              bif (p.Mask==0) then
                (bP k p.Seq 0 999999).bind fun r10=>
                bif r10 then
                  some (decide ((p.Part.size:Int)≤20))
                else
                  some false
              else
                some false
            else
              some false
          else
            some false) (· =decide (RN p)):=by
    intro hf
    have F:∀{Q:Prop},(RN p→False)→false=decide (RN p):=fun h=>(decide_eq_false h).symm
    refine Wp.bind (BD _ _ _) (fun _ e=> ?_);subst e
    simp only [inB,b9,aL,lW,cV_]
    refine Wp.ite (fun h1=> ?_) (fun h1=>Wp.ret (F (Q:=True) fun h=>h1 h.2.1))
    refine Wp.bind (BD _ _ _) (fun _ e=> ?_);subst e
    simp only [inB,b9,aL,lW,cV_]
    refine Wp.ite (fun h2=> ?_) (fun h2=>Wp.ret (F (Q:=True) fun h=>h2 h.2.2.1))
    refine Wp.ite (fun h3=> ?_) (fun h3=> ?_)
    ·have W:RN p→(0≤p.Next∧p.Next≤1000000)∧(0≤p.Mask∧p.Mask≤255)∧p.Seq=0∧p.Last=false∧p.Part=noB:=fun h=>by
       rcases h.2.2.2 with h | h
       ·exact h.2
       ·omega
     refine Wp.bind (BD _ _ _) (fun _ e=> ?_);subst e
     simp only [inB,b9,aL,lW,cV_]
     refine Wp.ite (fun h4=> ?_) (fun h4=>Wp.ret (F (Q:=True) fun h=>h4 (W h).1))
     refine Wp.bind (BD _ _ _) (fun _ e=> ?_);subst e
     simp only [inB,b9,aL,lW,cV_]
     refine Wp.ite (fun h5=> ?_) (fun h5=>Wp.ret (F (Q:=True) fun h=>h5 (W h).2.1))
     refine Wp.ite (fun h6=> ?_) (fun h6=>Wp.ret (F (Q:=True) fun h=>h6 (W h).2.2.1))
     refine Wp.bif (fun h7=>Wp.ret (F (Q:=True) fun h=>by rw [(W h).2.2.2.1] at h7;cases h7)) (fun h7=> ?_)
     refine Wp.ret ?_
     rw [decide_eq_decide]
     exact ⟨fun h=>⟨by omega,h1,h2, .inl ⟨h3,h4,h5,h6,h7,h⟩⟩,fun h=>(W h).2.2.2.2⟩
    ·refine Wp.ite (fun h4=> ?_) (fun h4=>Wp.ret (F (Q:=True) fun h=>by rcases h.2.2.2 with h | h<;>omega))
     have W:RN p→p.Next=0∧p.Mask=0∧(0≤p.Seq∧p.Seq≤999999)∧p.Part.size≤20:=fun h=>by
       rcases h.2.2.2 with h | h
       ·omega
       ·exact h.2
     refine Wp.ite (fun h5=> ?_) (fun h5=>Wp.ret (F (Q:=True) fun h=>h5 (W h).1))
     refine Wp.ite (fun h6=> ?_) (fun h6=>Wp.ret (F (Q:=True) fun h=>h6 (W h).2.1))
     refine Wp.bind (BD _ _ _) (fun _ e=> ?_);subst e
     simp only [inB,b9,aL,lW,cV_]
     refine Wp.ite (fun h7=> ?_) (fun h7=>Wp.ret (F (Q:=True) fun h=>h7 (W h).2.2.1))
     refine Wp.ret ?_
     rw [decide_eq_decide]
     exact ⟨fun h=>⟨by omega,h1,h2, .inr ⟨h4,h5,h6,h7,by omega⟩⟩,fun h=>by have:=(W h).2.2.2;omega⟩
  simp only [AX]
  refine Wp.ite (fun h=>key (.inl h)) (fun h=> ?_)
  refine Wp.ite (fun h=>key (.inr h)) (fun h2=>Wp.ret (decide_eq_false ?_).symm)
  intro h'
  have:=h'.1
  omega
theorem af_ (p:aE) (h:1≤p.From∧p.From≤2) (k:Nat):oV k p=cG k p:=by
  have e:aZ k p.From 1 2=some true:=by
    unfold aZ
    simp only [aL]
    rw [if_pos (by omega)]
    congr 1
    exact decide_eq_true h.2
  unfold oV cG
  rw [e]
  have hi:∀a b c,aZ k a b c=bP k a b c:=fun _ _ _=>rfl
  simp only [hi,Option.bind_some,Bool.not_true,cond_false,AX]
  by_cases h1:p.From=1
  ·rw [if_pos h1]
  ·rw [if_neg h1,if_pos (by omega)]
theorem bC_ (p:aE):Wp (fun k=>oV k p) (· =decide (RN p)):=by
  by_cases h:1≤p.From∧p.From≤2
  ·have:(fun k=>oV k p)=fun k=>cG k p:=funext fun k=>af_ p h k
   rw [this];exact k9 p
  ·unfold oV
   refine Wp.bind (dO _ _ _) (fun _ e=> ?_);subst e
   rw [inB,decide_eq_false h]
   exact Wp.ret (decide_eq_false fun h'=>h h'.1).symm
def N (w:Nat) (x:Int):ByteArray:=m6 (lC w x.toNat)
theorem mQ (w:Nat) (x:Int):(N w x).size=w:=by simp [N,tQ,nI]
theorem IT:∀(d w i n:Nat) (tail:List Int),i+d=w→w≤8→n<2^62→tail.length+d≤100→
    Wp (fun k=>fQ k (n:Int) (w:Int) (m6 tail) (i:Int)) (· =m6 (lC d n++tail))
  | 0,w,i,n,tail,h,hw,hn,ht=>by
    refine Wp.step ?_
    simp only [fQ]
    simp (disch:=omega) only [aL,if_neg]
    exact Wp.ret rfl
  | d+1,w,i,n,tail,h,hw,hn,ht=>by
    refine Wp.step ?_
    simp only [fQ]
    simp (disch:=omega) only [aL,if_pos,WM,XJ,Option.bind_some,bv_,P6,bR,dm_]
    have ih:=IT d w (i+1) (n/256) (((n%256:Nat):Int)::tail) (by omega) hw (by omega) (by simp;omega)
    simpa [lC] using ih
theorem oT {w:Nat} {x:Int} (hw:w≤8) (hx:0≤x∧x≤1000000):Wp (fun k=>dT k x (w:Int)) (· =N w x):=by
  obtain ⟨n,rfl⟩:∃n:Nat,x=n:=⟨x.toNat,by omega⟩
  have:=IT w w 0 n [] (by omega) hw (by omega) (by simp;omega)
  rw [List.append_nil] at this
  exact this
theorem ax_:∀(d n:Nat) (b:List Int),d≤b.length→b.length≤8→n<2^62→Wp (fun k=>pY k (n:Int) ((d:Int)-1) b) (· =m6 (lC d n++b.drop d))
  | 0,n,b,hd,hb,hn=>by
    refine Wp.step ?_
    simp only [pY]
    simp (disch:=omega) only [aL,if_neg]
    exact Wp.ret (by simp [lC])
  | d+1,n,b,hd,hb,hn=>by
    refine Wp.step ?_
    simp only [pY]
    rw [show ((d+1:Nat):Int)-1=(d:Int) by omega]
    have hlt:d<b.length:=by omega
    simp (disch:=first | omega | decide) only [aL,if_pos,gG_,gB_,Option.bind_some,gD_,bR,wu8]
    have ih:=ax_ d (n/256) (b.set d ((n%256:Nat):Int)) (by simp;omega) (by simpa using hb) (by omega)
    rw [QC hlt] at ih
    rw [Int.toNat_natCast]
    exact ih
theorem PR {w:Nat} {x:Int} (hw:w≤8) (hx:0≤x∧x≤1000000):Wp (fun k=>qW k x (w:Int)) (· =N w x):=by
  obtain ⟨n,rfl⟩:∃n:Nat,x=n:=⟨x.toNat,by omega⟩
  unfold qW
  refine Wp.opt (x:=w) (by rw [if_pos rfl];exact dU_ (by omega)) ?_
  have:=ax_ w n (List.replicate w 0) (by simp) (by simpa using hw) (by omega)
  rw [List.drop_eq_nil_of_le (by simp),List.append_nil] at this
  rw [bR (by omega) (by omega)]
  exact this
theorem XG (x y z:ByteArray):x++y++z=x++(y++z):=by
  apply ByteArray.ext;simp
def CJ (p:aE):ByteArray:=N 1 p.Kind++N 1 p.From++N 2 p.Mine++N 2 p.Yours
def dN_ (b:Bool):Int:=bif b then 1 else 0
def rD (p:aE):ByteArray:=
  if p.Kind=1 then CJ p++N 4 p.Next++N 1 p.Mask else CJ p++N 4 p.Seq++N 1 (dN_ p.Last)++p.Part
theorem C6 (p:aE):(CJ p).size=6:=by simp [CJ,mQ]
theorem CY (p:aE) (h:RN p):(rD p).size≤31:=by
  have hs:=C6 p
  unfold rD
  rcases h.2.2.2 with ⟨hk1,_⟩ | ⟨hk2,_,_,_,g4⟩
  ·rw [if_pos hk1];simp [mQ,hs]
  ·rw [if_neg (by omega)];simp [mQ,hs];omega
theorem bN_ (p:aE) (h:RN p):Wp (fun k=>qT k p) (· =rD p):=by
  obtain ⟨h1,h2,h3,h4⟩:=h
  have hK:0≤p.Kind∧p.Kind≤1000000:=by rcases h4 with h | h<;>omega
  unfold qT
  refine Wp.bind (oT (w:=1) (by omega) hK) (fun _ e=> ?_);subst e
  refine Wp.bind (oT (w:=1) (by omega) (by omega)) (fun _ e=> ?_);subst e
  refine Wp.opt (aY (by simp [mQ])) ?_
  refine Wp.bind (oT (w:=2) (by omega) (by omega)) (fun _ e=> ?_);subst e
  refine Wp.opt (aY (by simp [mQ])) ?_
  refine Wp.bind (oT (w:=2) (by omega) (by omega)) (fun _ e=> ?_);subst e
  refine Wp.opt (aY (by simp [mQ])) ?_
  have hd:N 1 p.Kind++N 1 p.From++N 2 p.Mine++N 2 p.Yours=CJ p:=rfl
  rw [hd]
  have hs:=C6 p
  simp only [lW]
  refine Wp.ite (fun hk=> ?_) (fun hk=> ?_)
  ·rcases h4 with ⟨_,g1,g2,_⟩ | ⟨hk2,_⟩
   ·refine Wp.bind (oT (w:=4) (by omega) (by omega)) (fun _ e=> ?_);subst e
    refine Wp.opt (aY (by simp [mQ,hs])) ?_
    refine Wp.bind (oT (w:=1) (by omega) (by omega)) (fun _ e=> ?_);subst e
    refine Wp.opt (aY (by simp [mQ,hs])) ?_
    exact Wp.ret (by rw [rD,if_pos hk])
   ·omega
  ·rcases h4 with ⟨hk1,_⟩ | ⟨hk2,g1,g2,g3,g4⟩
   ·exact absurd hk1 hk
   have key:∀l,0≤l∧l≤1000000→Wp (fun k=>k8 k (CJ p) l p.Kind p.From p.Mine p.Yours p.Next p.Mask p.Seq p.Last p.Part) (· =CJ p++N 4 p.Seq++N 1 l++p.Part):=fun l hl=>by
     refine Wp.step ?_
     simp only [k8]
     refine Wp.bind (oT (w:=4) (by omega) (by omega)) (fun _ e=> ?_);subst e
     refine Wp.opt (aY (by simp [mQ,hs])) ?_
     refine Wp.bind (oT (w:=1) (by omega) hl) (fun _ e=> ?_);subst e
     refine Wp.opt (aY (by simp [mQ,hs])) ?_
     refine Wp.opt (aY (by simp [mQ,hs];omega)) ?_
     exact Wp.ret rfl
   have hb:rD p=CJ p++N 4 p.Seq++N 1 (dN_ p.Last)++p.Part:=by rw [rD,if_neg hk]
   rw [hb]
   cases hl:p.Last
   ·have:=key 0 (by omega)
    rw [hl] at this;exact this
   ·have:=key 1 (by omega)
    rw [hl] at this;exact this
def zW (p:aE) (b:ByteArray) (w:Int):ByteArray:=if RN p∧(1≤w∧w≤8)∧b.size≤30 then ce_ (rD p) b w++rD p else noB
theorem HM (p:aE) (b:ByteArray) (w:Int):Wp (fun k=>gW k p b w) (· =zW p b w):=by
  unfold gW zW
  refine Wp.bind (bC_ p) (fun _ e=> ?_);subst e
  simp only [b9,aL]
  refine Wp.ite (fun h1=> ?_) (fun h1=>Wp.ret (by rw [if_neg (fun h=>h1 h.1)]))
  refine Wp.bind (dO _ _ _) (fun _ e=> ?_);subst e
  simp only [inB,b9,aL]
  refine Wp.ite (fun h2=> ?_) (fun h2=>Wp.ret (by rw [if_neg (fun h=>h2 h.2.1)]))
  refine Wp.ite (fun h3=>Wp.ret (by rw [if_neg (fun h=>by omega)])) (fun h3=> ?_)
  rw [if_pos ⟨h1,h2,by omega⟩]
  have hs:=CY p h1
  refine Wp.bind (bN_ p h1) (fun _ e=> ?_);subst e
  refine Wp.bind (ZH _ b w (by omega)) (fun _ e=> ?_);subst e
  refine Wp.bind (bN_ p h1) (fun _ e=> ?_);subst e
  have ht:=KJ (rD p) b w
  refine Wp.opt (aY (by omega)) ?_
  exact Wp.ret rfl
theorem IS (p:aE) (b:ByteArray) (w:Int):Wp (fun k=>gK k p b w) (· =zW p b w):=by
  unfold gK zW
  refine Wp.bind (k9 p) (fun _ e=> ?_);subst e
  simp only [b9,aL]
  refine Wp.ite (fun h1=> ?_) (fun h1=>Wp.ret (by rw [if_neg (fun h=>h1 h.1)]))
  refine Wp.ite (fun h2=>Wp.ret (by rw [if_neg (fun h=>by omega)])) (fun h2=> ?_)
  refine Wp.ite (fun h3=>Wp.ret (by rw [if_neg (fun h=>by omega)])) (fun h3=> ?_)
  refine Wp.ite (fun h4=>Wp.ret (by rw [if_neg (fun h=>by omega)])) (fun h4=> ?_)
  rw [if_pos ⟨h1,by omega,by omega⟩]
  have hbs:=CY p h1
  have ht:=KJ (rD p) b w
  obtain ⟨g1,g2,g3,g4⟩:=h1
  have hK:0≤p.Kind∧p.Kind≤1000000:=by rcases g4 with h | h<;>omega
  refine Wp.bind (PR (w:=1) (by omega) hK) (fun _ e=> ?_);subst e
  refine Wp.bind (PR (w:=1) (by omega) (by omega)) (fun _ e=> ?_);subst e
  refine Wp.opt (aY (by simp [mQ])) ?_
  refine Wp.bind (PR (w:=2) (by omega) (by omega)) (fun _ e=> ?_);subst e
  refine Wp.opt (aY (by simp [mQ])) ?_
  refine Wp.bind (PR (w:=2) (by omega) (by omega)) (fun _ e=> ?_);subst e
  refine Wp.opt (aY (by simp [mQ])) ?_
  have hd:N 1 p.Kind++N 1 p.From++N 2 p.Mine++N 2 p.Yours=CJ p:=rfl
  rw [hd]
  have hs:=C6 p
  have l10:Wp (fun k=>fC k b w (rD p)) (· =ce_ (rD p) b w++rD p):=by
    refine Wp.step ?_
    simp only [fC]
    refine Wp.bind (X9 _ b w (by omega)) (fun _ e=> ?_);subst e
    refine Wp.opt (aY (by omega)) ?_
    exact Wp.ret rfl
  simp only [lW]
  refine Wp.ite (fun hk=> ?_) (fun hk=> ?_)
  ·rcases g4 with ⟨_,q1,q2,_⟩ | ⟨hk2,_⟩
   ·refine Wp.bind (PR (w:=4) (by omega) (by omega)) (fun _ e=> ?_);subst e
    refine Wp.bind (PR (w:=1) (by omega) (by omega)) (fun _ e=> ?_);subst e
    refine Wp.opt (aY (by simp [mQ])) ?_
    refine Wp.opt (aY (by simp [mQ,hs])) ?_
    have e:CJ p++(N 4 p.Next++N 1 p.Mask)=rD p:=by rw [rD,if_pos hk,XG]
    rw [e];exact l10
   ·omega
  ·rcases g4 with ⟨hk1,_⟩ | ⟨hk2,q1,q2,q3,q4⟩
   ·exact absurd hk1 hk
   have key:∀l,0≤l∧l≤1000000→CJ p++N 4 p.Seq++N 1 l++p.Part=rD p→Wp (fun k=>fU k b w (CJ p) l p.Kind p.From p.Mine p.Yours p.Next p.Mask p.Seq p.Last p.Part) (· =ce_ (rD p) b w++rD p):=fun l hl e=>by
     refine Wp.step ?_
     simp only [fU]
     refine Wp.bind (PR (w:=4) (by omega) (by omega)) (fun _ e=> ?_);subst e
     refine Wp.bind (PR (w:=1) (by omega) hl) (fun _ e=> ?_);subst e
     refine Wp.opt (aY (by simp [mQ])) ?_
     refine Wp.opt (aY (by simp [mQ];omega)) ?_
     refine Wp.opt (aY (by simp [mQ,hs];omega)) ?_
     rw [show CJ p++(N 4 p.Seq++N 1 l++p.Part)=rD p by rw [←e];simp only [XG]]
     exact l10
   have hb0:rD p=CJ p++N 4 p.Seq++N 1 (dN_ p.Last)++p.Part:=by rw [rD,if_neg hk]
   cases hl:p.Last
   ·rw [hl] at hb0
    have:=key 0 (by omega) hb0.symm
    rw [hl] at this
    exact this
   ·rw [hl] at hb0
    have:=key 1 (by omega) hb0.symm
    rw [hl] at this
    exact this
theorem YQ (p:aE) (b:ByteArray) (w:Int):(zW p b w).size≤39:=by
  unfold zW
  split
  ·rename_i h
   rw [aG]
   have:=CY p h.1
   have:=KJ (rD p) b w
   omega
  ·simp [rJ]
def RH (e:aN) (p:aE):aV:=
  if p.Yours=e.Life then
   if p.Kind=1 then ⟨0,⟨e.Number,e.Up,e.Life,e.Peer,e.Since,e.Owes,U5 e.Send p.Next p.Mask,e.Take⟩,[],noB⟩
   else ⟨0,⟨e.Number,e.Up,e.Life,e.Peer,e.Since,true,e.Send,TG e.Take p.Seq ⟨p.Part,p.Last⟩⟩,[],noB⟩
  else ⟨0,⟨e.Number,e.Up,e.Life,e.Peer,e.Since,true,e.Send,e.Take⟩,[],noB⟩
def cD_ (e:aN) (p:aE):aN:=if p.Mine>e.Peer then ⟨e.Number,e.Up,e.Life,p.Mine,e.Since,true,wK,A3⟩ else e
def JT (e:aN) (p:aE):aV:=
  if VEnd e then
   if e.Up=true∧RN p∧¬p.From=e.Number∧¬p.Mine<e.Peer then RH (cD_ e p) p else ⟨0,e,[],noB⟩
  else ⟨1,DA,[],noB⟩
theorem PN (e:aN) (p:aE):Wp (fun k=>sD k e p) (· =JT e p):=by
  unfold sD JT
  refine Wp.bind (dY _) (fun _ q=> ?_);subst q
  simp only [aL,b9,lW]
  refine Wp.ite (fun h1=> ?_) (fun h1=>Wp.ret (by rw [if_neg h1]))
  rw [if_pos h1]
  refine Wp.bind (oN e h1) (fun r q=> ?_);rw [q]
  refine Wp.bif (fun u=> ?_) (fun u=>Wp.ret (by rw [if_neg (fun g=>by have:=g.1;rw [u] at this;cases this)]))
  refine Wp.bind (bC_ p) (fun _ q=> ?_);subst q
  simp only [aL]
  refine Wp.ite (fun h2=> ?_) (fun h2=>Wp.ret (by rw [if_neg (fun g=>h2 g.2.1)]))
  refine Wp.ite (fun h3=>Wp.ret (by rw [if_neg (fun g=>g.2.2.1 h3)])) (fun h3=> ?_)
  refine Wp.ite (fun h4=>Wp.ret (by rw [if_neg (fun g=>g.2.2.2 h4)])) (fun h4=> ?_)
  rw [if_pos ⟨u,h2,h3,h4⟩]
  have M:∀(n:Int) (uu:Bool) (li pe si:Int) (ow:Bool) (b:Int) (it:List aI) (nn:Int) (hd:List aP) (o:ByteArray) (rr:List ByteArray),
   Wp (fun k=>iQ k p.Kind p.From p.Mine p.Yours p.Next p.Mask p.Seq p.Last p.Part 0 0 false 0 0 0 false 0 0 (⟨#[]⟩:ByteArray) (⟨#[]⟩:ByteArray) n uu li pe si ow b nn o ([]:List aI) ([]:List aP) ([]:List ByteArray) ([]:List aE) it hd rr) (· =RH ⟨n,uu,li,pe,si,ow,⟨b,it⟩,⟨nn,hd,o,rr⟩⟩ p):=by
    intro n uu li pe si ow b it nn hd o rr
    refine Wp.step ?_
    simp only [iQ,AX,lW,RH]
    refine Wp.ite (fun h5=> ?_) (fun h5=>Wp.ret (by rw [if_neg h5]))
    rw [if_pos h5]
    refine Wp.ite (fun h6=> ?_) (fun h6=> ?_)
    ·rw [if_pos h6]
     refine Wp.bind (KN _ _ _) (fun _ q=> ?_);subst q
     exact Wp.ret rfl
    ·rw [if_neg h6]
     refine Wp.bind (U9 _ _ _) (fun _ q=> ?_);subst q
     exact Wp.ret rfl
  unfold cD_
  refine Wp.ite (fun h5=> ?_) (fun h5=> ?_)
  ·rw [if_pos h5];exact M _ _ _ _ _ _ _ _ _ _ _ _
  ·rw [if_neg h5];exact M _ _ _ _ _ _ _ _ _ _ _ _
theorem R4 (e:aN) (p:aE):Wp (fun k=>rX k e p) (· =JT e p):=by
  unfold rX JT
  refine Wp.bind (d5 _) (fun _ q=> ?_);subst q
  simp only [aL,b9,lW]
  refine Wp.ite (fun h1=> ?_) (fun h1=>Wp.ret (by rw [if_neg h1]))
  rw [if_pos h1]
  refine Wp.bind (mA e h1) (fun r q=> ?_);rw [q]
  refine Wp.bif (fun u=> ?_) (fun u=>Wp.ret (by rw [if_neg (fun g=>by have:=g.1;rw [u] at this;cases this)]))
  refine Wp.bind (k9 p) (fun _ q=> ?_);subst q
  simp only [aL]
  refine Wp.ite (fun h2=> ?_) (fun h2=>Wp.ret (by rw [if_neg (fun g=>h2 g.2.1)]))
  refine Wp.ite (fun h3=>Wp.ret (by rw [if_neg (fun g=>g.2.2.1 h3)])) (fun h3=> ?_)
  refine Wp.ite (fun h4=>Wp.ret (by rw [if_neg (fun g=>g.2.2.2 h4)])) (fun h4=> ?_)
  rw [if_pos ⟨u,h2,h3,h4⟩]
  have M:∀(n:Int) (uu:Bool) (li pe si:Int) (ow:Bool) (b:Int) (it:List aI) (nn:Int) (hd:List aP) (o:ByteArray) (rr:List ByteArray),
   Wp (fun k=>jR k p.Kind p.From p.Mine p.Yours p.Next p.Mask p.Seq p.Last p.Part 0 0 false 0 0 0 false 0 0 (⟨#[]⟩:ByteArray) (⟨#[]⟩:ByteArray) 0 n uu li pe si ow b nn o (⟨#[]⟩:ByteArray) ([]:List aI) ([]:List aP) ([]:List ByteArray) ([]:List aE) it hd rr ([]:List aE)) (· =RH ⟨n,uu,li,pe,si,ow,⟨b,it⟩,⟨nn,hd,o,rr⟩⟩ p):=by
    intro n uu li pe si ow b it nn hd o rr
    refine Wp.step ?_
    simp only [jR,AX,lW,RH]
    refine Wp.ite (fun h5=> ?_) (fun h5=>Wp.ret (by rw [if_neg h5]))
    rw [if_pos h5]
    refine Wp.ite (fun h6=> ?_) (fun h6=> ?_)
    ·rw [if_pos h6]
     refine Wp.bind (TC _ _ _) (fun _ q=> ?_);subst q
     refine Wp.step ?_
     simp only [iM]
     exact Wp.ret rfl
    ·rw [if_neg h6]
     refine Wp.bind (UI _ _ _) (fun _ q=> ?_);subst q
     refine Wp.step ?_
     simp only [iM]
     exact Wp.ret rfl
  unfold cD_
  refine Wp.ite (fun h5=> ?_) (fun h5=> ?_)
  ·rw [if_pos h5];exact M _ _ _ _ _ _ _ _ _ _ _ _
  ·rw [if_neg h5];exact M _ _ _ _ _ _ _ _ _ _ _ _
def gd_ (l:List UInt8):Int:=l.foldl (fun v c=>v*256+(c.toNat:Int)) 0
theorem U3 {n:Nat} (h:n≤6):(256:Int)^n≤281474976710656:=by
  have:n=0∨n=1∨n=2∨n=3∨n=4∨n=5∨n=6:=by omega
  rcases this with rfl | rfl | rfl | rfl | rfl | rfl | rfl<;>decide
theorem SO (s:ByteArray):∀(t pre:List UInt8) (v:Int),s.data.toList=pre++t→s.size≤6→0≤v∧v<256^pre.length→
    Wp (fun k=>jE k s v (pre.length:Int)) (· =t.foldl (fun v c=>v*256+(c.toNat:Int)) v)
  | [],pre,v,h,hs,hv=>by
    refine Wp.step ?_
    have:=sJ h
    simp only [List.length_nil] at this
    simp only [jE]
    simp (disch:=omega) only [aL,if_neg]
    exact Wp.ret rfl
  | c::t,pre,v,h,hs,hv=>by
    refine Wp.step ?_
    have hl:=sJ h
    simp only [List.length_cons] at hl
    have hp:=U3 (n:=pre.length) (by omega)
    have hc:=c.toNat_lt
    simp only [jE]
    simp (disch:=omega) only [aL,if_pos,hY h,Option.bind_some,bR]
    have ih:=SO s t (pre++[c]) (v*256+(c.toNat:Int)) (by simpa using h) hs (by
      rw [List.length_append,List.length_singleton,Int.pow_succ];omega)
    rwa [←bS] at ih
theorem OV (s:ByteArray) (h:s.size≤6):Wp (fun k=>n5 k s) (· =gd_ s.data.toList):=SO s s.data.toList [] 0 rfl h (by decide)
theorem fr_ (n c:Nat) (h:c<256):(n*256) ||| c=n*256+c:=by
  have:=Nat.shiftLeft_add_eq_or_of_lt (a:=n) (i:=8) (b:=c) (by simpa using h)
  rw [Nat.shiftLeft_eq] at this
  simpa using this.symm
theorem Y3 (n c:Nat) (hn:n<281474976710656) (hc:c<256):W9 .i64 ((n*256:Nat):Int) (c:Int)=((n*256+c:Nat):Int):=by
  have e:∀m:Nat,BitVec.ofInt 64 (m:Int)=BitVec.ofNat 64 m:=fun m=>by
    apply BitVec.eq_of_toNat_eq
    simp [BitVec.toNat_ofInt]
  show IntKind.wrap .i64 ((BitVec.ofInt 64 ((n*256:Nat):Int) ||| BitVec.ofInt 64 (c:Int)).toNat:Int)=_
  rw [e,e,BitVec.toNat_or,BitVec.toNat_ofNat,BitVec.toNat_ofNat,Nat.mod_eq_of_lt (by omega),Nat.mod_eq_of_lt (by omega),fr_ n c hc]
  exact bR (by omega) (by omega)
theorem gR_ (n:Nat) (h:n<36028797018963968):shift .shl .i64 (n:Int) 8=some ((n*256:Nat):Int):=by
  simp only [shift]
  rw [if_neg (by omega)]
  congr 1
  rw [show (Int.toNat 8)=8 from rfl,show min 8 IntKind.i64.bits=8 from rfl]
  rw [bR (by omega) (by omega)]
  simp
theorem WB (s:ByteArray):∀(t pre:List UInt8) (v:Nat),s.data.toList=pre++t→s.size≤6→(v:Int)<256^pre.length→
    Wp (fun k=>n7 k s (v:Int) (pre.length:Int)) (· =t.foldl (fun v c=>v*256+(c.toNat:Int)) (v:Int))
  | [],pre,v,h,hs,hv=>by
    refine Wp.step ?_
    have:=sJ h
    simp only [List.length_nil] at this
    simp only [n7]
    simp (disch:=omega) only [aL,if_neg]
    exact Wp.ret rfl
  | c::t,pre,v,h,hs,hv=>by
    refine Wp.step ?_
    have hl:=sJ h
    simp only [List.length_cons] at hl
    have hp:=U3 (n:=pre.length) (by omega)
    have hp':=U3 (n:=pre.length+1) (by omega)
    rw [Int.pow_succ] at hp'
    have hc:=c.toNat_lt
    simp only [n7]
    simp (disch:=omega) only [aL,if_pos,hY h,Option.bind_some,bR,gR_,Y3]
    have ih:=WB s t (pre++[c]) (v*256+c.toNat) (by simpa using h) hs (by
      rw [List.length_append,List.length_singleton,Int.pow_succ];omega)
    rw [←bS] at ih
    rw [List.foldl_cons]
    have e:((v*256+c.toNat:Nat):Int)=(v:Int)*256+(c.toNat:Int):=by omega
    rw [e] at ih⊢
    exact ih
theorem WH (s:ByteArray) (h:s.size≤6):Wp (fun k=>xM k s) (· =gd_ s.data.toList):=WB s s.data.toList [] 0 rfl h (by decide)
def at' (b:ByteArray) (i:Nat):UInt8:=b.data.toList.getD i 0
theorem xF {b:ByteArray} {i:Nat} (h:i<b.size):AQ b (i:Int)=some (at' b i):=by
  unfold AQ at'
  rw [if_neg (by omega),Int.toNat_natCast]
  have e:b[i]? =some (b[i]'h):=by simp [h]
  rw [e]
  have:b.data.toList[i]? =some (b[i]'h):=by
    rw [Array.getElem?_toList,Array.getElem?_eq_getElem (show i<b.data.size from h)];rfl
  rw [List.getD_eq_getElem?_getD,this];rfl
def VP:aE:=⟨0,0,0,0,0,0,0,false,noB⟩
def em_ (b:ByteArray) (i j:Nat):Int:=gd_ (b.extract i j).data.toList
def BA (b:ByteArray):aE:=
  if ((at' b 0).toNat:Int)=1 then ⟨(at' b 0).toNat,(at' b 1).toNat,em_ b 2 4,em_ b 4 6,em_ b 6 10,(at' b 10).toNat,0,false,noB⟩
  else ⟨(at' b 0).toNat,(at' b 1).toNat,em_ b 2 4,em_ b 4 6,0,0,em_ b 6 10,(((at' b 10).toNat:Int)==1),b.extract 11 b.size⟩
def OP (s b:ByteArray) (w:Int):aE×Bool:=
  if (1≤w∧w≤8)∧w+11≤s.size then (if zW (BA (s.extract w.toNat s.size)) b w=s then (BA (s.extract w.toNat s.size),true) else (VP,false)) else (VP,false)
theorem nH (s:ByteArray) (i j:Nat):(s.extract i j).size=min j s.size-i:=by simp
theorem wu (c:UInt8):IntKind.wrap .i64 (c.toNat:Int)=(c.toNat:Int):=by have:=c.toNat_lt;exact bR (by omega) (by omega)
theorem TP (s b:ByteArray) (w:Int) (hs:s.size≤1048576):Wp (fun k=>mY k s b w) (· =OP s b w):=by
  unfold mY OP
  refine Wp.bind (dO _ _ _) (fun _ e=> ?_);subst e
  simp only [inB,b9,aL]
  refine Wp.ite (fun h1=> ?_) (fun h1=>Wp.ret (by rw [if_neg (fun h=>h1 h.1)];rfl))
  rw [bR (by omega) (by omega)]
  refine Wp.ite (fun h2=>Wp.ret (by rw [if_neg (fun h=>by omega)];rfl)) (fun h2=> ?_)
  rw [if_pos ⟨h1,by omega⟩]
  refine Wp.opt (dF (by omega)) ?_
  dsimp only
  rw [Int.toNat_natCast]
  have hsz:(s.extract w.toNat s.size).size=s.size-w.toNat:=by rw [nH];omega
  have hge:11≤(s.extract w.toNat s.size).size:=by omega
  generalize hb:s.extract w.toNat s.size=B at hsz hge⊢
  have key:∀p:aE,Wp (fun k=>(gW k p b w).bind fun r16=>
   bif (!(r16.toList==s.toList)) then some (VP,false) else some (p,true)) (· =if zW p b w=s then (p,true) else (VP,false)):=fun p=>by
    refine Wp.bind (HM p b w) (fun _ e=> ?_);subst e
    simp only [b9,nO]
    exact Wp.ite (fun h=>Wp.ret (by rw [if_pos h])) (fun h=>Wp.ret (by rw [if_neg h]))
  have hBs:B.size≤1048576:=by omega
  refine Wp.opt (xF (i:=0) (by omega)) ?_
  refine Wp.opt (xF (i:=1) (by omega)) ?_
  refine Wp.opt (dF (by omega)) ?_
  refine Wp.bind (OV _ (by rw [nH];simp;omega)) (fun _ e=> ?_);subst e
  refine Wp.opt (dF (by omega)) ?_
  refine Wp.bind (OV _ (by rw [nH];simp;omega)) (fun _ e=> ?_);subst e
  simp only [wu,lW]
  refine Wp.ite (fun hk=> ?_) (fun hk=> ?_)
  ·refine Wp.opt (dF (by omega)) ?_
   refine Wp.bind (OV _ (by rw [nH];simp;omega)) (fun _ e=> ?_);subst e
   refine Wp.opt (xF (i:=10) (by omega)) ?_
   refine Wp.step ?_
   simp only [eY,wu]
   have:=key (BA B)
   unfold BA at this⊢
   rw [if_pos hk] at this⊢
   exact this
  ·refine Wp.opt (dF (by omega)) ?_
   refine Wp.bind (OV _ (by rw [nH];simp;omega)) (fun _ e=> ?_);subst e
   refine Wp.opt (xF (i:=10) (by omega)) ?_
   refine Wp.opt (dF (by omega)) ?_
   refine Wp.step ?_
   simp only [eY,wu]
   have:=key (BA B)
   unfold BA at this⊢
   rw [if_neg hk] at this⊢
   exact this
theorem TK {p:aE} {b s:ByteArray} {w:Int} (h:¬(RN p∧b.size≤30)) (hs:11≤s.size):zW p b w≠s:=by
  unfold zW
  rw [if_neg (fun h'=>h ⟨h'.1,h'.2.2⟩)]
  intro e
  rw [←e] at hs
  simp [rJ] at hs
theorem UR (s b:ByteArray) (w:Int) (hs:s.size≤1048576):Wp (fun k=>mS k s b w) (· =OP s b w):=by
  unfold mS OP
  simp only [aL]
  refine Wp.ite (fun h1=>Wp.ret (by rw [if_neg (fun h=>by omega)];rfl)) (fun h1=> ?_)
  refine Wp.ite (fun h2=>Wp.ret (by rw [if_neg (fun h=>by omega)];rfl)) (fun h2=> ?_)
  refine Wp.ite (fun h3=>Wp.ret ?_) (fun h3=> ?_)
  ·split
   ·rename_i h
    rw [if_neg (TK (fun h'=>by omega) (by omega))];rfl
   ·rfl
  rw [bR (by omega) (by omega)]
  refine Wp.ite (fun h4=>Wp.ret (by rw [if_neg (fun h=>by omega)];rfl)) (fun h4=> ?_)
  rw [if_pos ⟨by omega,by omega⟩]
  refine Wp.opt (dF (by omega)) ?_
  dsimp only
  rw [Int.toNat_natCast]
  have hsz:(s.extract w.toNat s.size).size=s.size-w.toNat:=by rw [nH];omega
  have hge:11≤(s.extract w.toNat s.size).size:=by omega
  generalize hb:s.extract w.toNat s.size=B at hsz hge⊢
  have key:∀p:aE,Wp (fun k=>(cG k p).bind fun r15=>bif (!r15) then some (VP,false) else (gK k p b w).bind fun r16=>
   bif (!(r16.toList==s.toList)) then some (VP,false) else some (p,true)) (· =if zW p b w=s then (p,true) else (VP,false)):=fun p=>by
    refine Wp.bind (k9 p) (fun _ e=> ?_);subst e
    simp only [b9,aL]
    refine Wp.ite (fun hf=> ?_) (fun hf=>Wp.ret (by rw [if_neg (TK (fun h'=>hf h'.1) (by omega))]))
    refine Wp.bind (IS p b w) (fun _ e=> ?_);subst e
    simp only [b9,nO]
    exact Wp.ite (fun h=>Wp.ret (by rw [if_pos h])) (fun h=>Wp.ret (by rw [if_neg h]))
  have hBs:B.size≤1048576:=by omega
  refine Wp.opt (xF (i:=0) (by omega)) ?_
  refine Wp.opt (xF (i:=1) (by omega)) ?_
  refine Wp.opt (dF (by omega)) ?_
  refine Wp.bind (WH _ (by rw [nH];simp;omega)) (fun _ e=> ?_);subst e
  refine Wp.opt (dF (by omega)) ?_
  refine Wp.bind (WH _ (by rw [nH];simp;omega)) (fun _ e=> ?_);subst e
  simp only [wu,lW]
  refine Wp.ite (fun hk=> ?_) (fun hk=> ?_)
  ·refine Wp.opt (dF (by omega)) ?_
   refine Wp.bind (WH _ (by rw [nH];simp;omega)) (fun _ e=> ?_);subst e
   refine Wp.opt (xF (i:=10) (by omega)) ?_
   refine Wp.step ?_
   simp only [cY,wu]
   have:=key (BA B)
   unfold BA at this⊢
   rw [if_pos hk] at this⊢
   exact this
  ·refine Wp.ite (fun hk2=> ?_) (fun hk2=> ?_)
   ·refine Wp.opt (dF (by omega)) ?_
    refine Wp.bind (WH _ (by rw [nH];simp;omega)) (fun _ e=> ?_);subst e
    refine Wp.opt (xF (i:=10) (by omega)) ?_
    refine Wp.opt (dF (by omega)) ?_
    refine Wp.step ?_
    simp only [cY,wu]
    have:=key (BA B)
    unfold BA at this⊢
    rw [if_neg hk] at this⊢
    exact this
   ·refine Wp.step ?_
    simp only [cY,wu]
    have hno:¬RN (BA B):=fun hf=>by
      have hK:(BA B).Kind=1∨(BA B).Kind=2:=by rcases hf.2.2.2 with h | h<;>omega
      unfold BA at hK
      rw [if_neg hk] at hK
      exact hK.elim hk hk2
    rw [if_neg (TK (fun h=>hno h.1) (by omega))]
    refine Wp.bind (k9 _) (fun _ e=> ?_);subst e
    rw [decide_eq_false]
    ·exact Wp.ret rfl
    ·intro hf
     have hK:(((at' B 0).toNat:Int))=1∨(((at' B 0).toNat:Int))=2:=hf.2.2.2.elim (fun h=> .inl h.1) (fun h=> .inr h.1)
     exact hK.elim hk hk2
theorem bx_ {e:aN} (h:VEnd e):VEnd (rE e).End:=by
  obtain ⟨h1,h2,h3,h4,h5,h6,h7,h8⟩:=h
  have h:VEnd e:=⟨h1,h2,h3,h4,h5,h6,h7,h8⟩
  have hs:=(ag_ e h).1
  have hz:e.Peer=0→c0_ (lV e).1∧bR_ e.Take:=fun hp=>by unfold lV;rw [if_pos hp];exact h7 hp
  unfold rE
  rw [if_pos h]
  split
  ·rename_i hu
   have nu:∀q:Prop,(e.Up=false→q):=fun q g=>by rw [hu] at g;cases g
   split
   ·exact ⟨h1,h2,h3,⟨by simp,by simp⟩,hs,h6,hz,nu _⟩
   ·refine ⟨h1,h2,h3, ?_,hs,h6,hz,nu _⟩
    show 0≤upS e∧upS e≤1000000
    unfold upS;split<;>omega
  ·exact h
theorem eK_ {e:aN} {p:aE} (h:VEnd e) (hu:e.Up=true) (hf:RN p):VEnd (cD_ e p)∧(cD_ e p).Up=true:=by
  unfold cD_
  split
  ·refine ⟨⟨h.1,h.2.1, ?_,h.2.2.2.1,uT,CQ,fun _=>⟨ga_,gc_⟩,fun g=> ?_⟩,hu⟩
   ·have:=hf.2.1;have:=h.2.2.1
    show 0≤p.Mine∧p.Mine≤1000;omega
   ·change e.Up=false at g;rw [hu] at g;cases g
  ·exact ⟨h,hu⟩
theorem Z1 {e:aN} {p:aE} (h:VEnd e) (hf:RN p) (hm:¬p.Mine<e.Peer):(cD_ e p).Peer=p.Mine:=by
  unfold cD_;split
  ·rfl
  ·omega
theorem dx_ {e:aN} {p:aE} (h:VEnd e) (hu:e.Up=true) (hp:e.Peer≠0):VEnd (RH e p).End:=by
  obtain ⟨h1,h2,h3,h4,h5,h6,h7,h8⟩:=h
  have nu:∀q:Prop,(e.Up=false→q):=fun q g=>by rw [hu] at g;cases g
  unfold RH
  split
  ·split
   ·exact ⟨h1,h2,h3,h4,WF _ _ _,h6,fun g=>absurd g hp,nu _⟩
   ·exact ⟨h1,h2,h3,h4,h5,ei_ _ _ _,fun g=>absurd g hp,nu _⟩
  ·exact ⟨h1,h2,h3,h4,h5,h6,fun g=>absurd g hp,nu _⟩
theorem d4_ {e:aN} (p:aE) (h:VEnd e):VEnd (JT e p).End:=by
  unfold JT
  rw [if_pos h]
  split
  ·rename_i hc
   obtain ⟨g1,g2⟩:=eK_ h hc.1 hc.2.1
   refine dx_ g1 g2 ?_
   rw [Z1 h hc.2.1 hc.2.2.2]
   have:=hc.2.1.2.1;omega
  ·exact h
theorem dY_ {e:aN} {t:ByteArray} (h:VEnd e) (hc:(qI e t).Code=0):VEnd (qI e t).End∧e.Up=true∧e.Peer≠0∧t.size≤200:=by
  unfold qI at hc⊢
  rw [if_pos h] at hc⊢
  split at hc
  ·rename_i hu
   rw [if_pos hu]
   split at hc
   ·cases hc
   ·rename_i hp
    rw [if_neg hp]
    split at hc
    ·rename_i h0
     rw [if_pos h0]
     obtain ⟨h1,h2,h3,h4,h5,h6,h7,h8⟩:=h
     refine ⟨⟨h1,h2,h3,h4,WO _ _,h6,fun g=>absurd g hp,fun g=> ?_⟩,hu,hp, ?_⟩
     ·change e.Up=false at g;rw [hu] at g;cases g
     ·unfold A6 at h0
      split at h0
      ·rename_i hh;exact hh.2
      ·cases h0
    ·rename_i h0;exact absurd hc h0
  ·cases hc
theorem ee_ {e:aN} (h:VEnd e) (hc:(nQ e).Code=0):VEnd (nQ e).End∧e.Up=true∧e.Peer≠0∧(nQ e).Text.size≤200:=by
  unfold nQ at hc⊢
  rw [if_pos h] at hc⊢
  split at hc
  ·rename_i hu
   rw [if_pos hu]
   split at hc
   ·rename_i hr
    rw [if_pos hr]
    obtain ⟨h1,h2,h3,h4,h5,h6,h7,h8⟩:=h
    have hp:e.Peer≠0:=fun e0=>by
      have hz:=(h7 e0).2.2.2.2
      unfold CT at hr
      rw [if_pos h6] at hr
      split at hr
      ·cases hr
      ·rename_i s rs hrr;rw [hrr] at hz;cases hz
    refine ⟨⟨h1,h2,h3,h4,h5,(XL _).1,fun g=>absurd g hp,fun g=> ?_⟩,hu,hp,(XL _).2⟩
    change e.Up=false at g;rw [hu] at g;cases g
   ·cases hc
  ·cases hc
theorem RS {e:aN} (h:VEnd e):(rE e).End.Number=e.Number:=by
  unfold rE;rw [if_pos h];split
  ·split<;>rfl
  ·rfl
theorem aB_ {e:aN} (p:aE) (h:VEnd e):(JT e p).End.Number=e.Number:=by
  unfold JT;rw [if_pos h];split
  ·unfold RH cD_;repeat' split
   all_goals rfl
  ·rfl
theorem aU_ {e:aN} {t:ByteArray} (h:VEnd e) (hc:(qI e t).Code=0):(qI e t).End.Number=e.Number:=by
  unfold qI at hc⊢
  rw [if_pos h] at hc⊢
  split at hc
  ·rename_i hu;rw [if_pos hu]
   split at hc
   ·cases hc
   ·rename_i hp;rw [if_neg hp]
    split at hc
    ·rename_i h0;rw [if_pos h0]
    ·rename_i h0;exact absurd hc h0
  ·cases hc
theorem bi_ {e:aN} (h:VEnd e) (hc:(nQ e).Code=0):(nQ e).End.Number=e.Number:=by
  unfold nQ at hc⊢
  rw [if_pos h] at hc⊢
  split at hc
  ·rename_i hu;rw [if_pos hu]
   split at hc
   ·rename_i hr;rw [if_pos hr]
   ·cases hc
  ·cases hc
theorem bs_ {e:aN} (h:VEnd e):(N5 e).Number=e.Number:=by unfold N5;rw [if_pos h]
theorem aq_ {e:aN} (h:VEnd e):(OC e).Number=e.Number:=by unfold OC;rw [if_pos h];repeat' split<;>try rfl
theorem CF {e:aN} (h:VEnd e):(rE e).Out.length≤61:=by
  have h2:=(ag_ e h).2
  unfold rE;rw [if_pos h];split
  ·split
   ·simp;omega
   ·simp;omega
  ·simp
def ZL (b:ByteArray) (wd to:Int) (p:aE):aD:=⟨to,zW p b wd,zW p b wd⟩
def db_ (b:ByteArray) (wd to:Int) (out:List aE) (fl:List aD):List aD:=fl++(out.map (ZL b wd to)).take (1000-fl.length)
def eJ (n:Int) (l:List aN):aN:=match l with | [e,f]=>if n=1 then e else f | _=>DA
def FE (n:Int) (x:aN) (l:List aN):List aN:=match l with | [e,f]=>if n=1 then [x,f] else [e,x] | l=>l
def sX (w:aC):aC:=
  ⟨w.Key,w.Width,[(rE (eJ 1 w.Ends)).End,(rE (eJ 2 w.Ends)).End],db_ w.Key w.Width 1 (rE (eJ 2 w.Ends)).Out (db_ w.Key w.Width 2 (rE (eJ 1 w.Ends)).Out w.Flight),w.Forged,w.Given,w.Taken⟩
def oO (w:aC) (p:aD):aC:=
  if (OP p.Bytes w.Key w.Width).2=true then
   ⟨w.Key,w.Width,FE p.To (JT (eJ p.To w.Ends) (OP p.Bytes w.Key w.Width).1).End w.Ends,w.Flight,if¬p.Bytes=p.Sent∧w.Forged=noB then p.Bytes else w.Forged,w.Given,w.Taken⟩
  else w
def JP (w:aC) (n:Int):aC:=
  if w.Given.length+w.Taken.length<400∧(nQ (eJ n w.Ends)).Code=0 then
   ⟨w.Key,w.Width,FE n (nQ (eJ n w.Ends)).End w.Ends,w.Flight,w.Forged,w.Given,w.Taken++[⟨3-n,(eJ n w.Ends).Peer,(eJ n w.Ends).Life,(nQ (eJ n w.Ends)).Text⟩]⟩
  else w
def P2 (w:aC) (n:Int) (t:ByteArray):aC:=
  if w.Given.length+w.Taken.length<400∧(qI (eJ n w.Ends) t).Code=0 then
   ⟨w.Key,w.Width,FE n (qI (eJ n w.Ends) t).End w.Ends,w.Flight,w.Forged,w.Given++[⟨n,(eJ n w.Ends).Life,(eJ n w.Ends).Peer,t⟩],w.Taken⟩
  else w
def nP (w:aC) (fl:List aD):aC:=⟨w.Key,w.Width,w.Ends,fl,w.Forged,w.Given,w.Taken⟩
def du_ (w:aC) (n:Int) (x:aN):aC:=⟨w.Key,w.Width,FE n x w.Ends,w.Flight,w.Forged,w.Given,w.Taken⟩
def bW_ (s:ByteArray) (b c:Int):ByteArray:=m6 ((bB s).set b.toNat (w6 .u8 ((bB s).getD b.toNat 0) (IntKind.wrap .u8 (c%256))))
def xW (w:aC) (v:c6) (p:aD):aC:=
  if v.Kind=2 then oO (nP w (w.Flight.eraseIdx v.A.toNat)) p
  else if v.Kind=3 then (if w.Flight.length<1000 then nP w (w.Flight++[p]) else w)
  else if v.Kind=4 then nP w (w.Flight.eraseIdx v.A.toNat)
  else if v.Kind=5 then (if (0≤v.B∧v.B<p.Bytes.size)∧0≤v.C then nP w (w.Flight.set v.A.toNat ⟨p.To,p.Sent,bW_ p.Bytes v.B v.C⟩) else w)
  else if v.Kind=6 then (if 0≤v.B∧v.B≤p.Bytes.size then nP w (w.Flight.set v.A.toNat ⟨p.To,p.Sent,p.Bytes.extract 0 v.B.toNat⟩) else w)
  else nP w (w.Flight.set v.A.toNat ⟨3-p.To,p.Sent,p.Bytes⟩)
def BV (w:aC) (v:c6):aC:=
  if v.Kind=8 then du_ w v.A (N5 (eJ v.A w.Ends))
  else if v.Kind=9 then du_ w v.A (OC (eJ v.A w.Ends))
  else if v.Kind=10 then P2 w v.A v.Text
  else JP w v.A
def doW (w:aC) (v:c6):aC:=
  if v.Kind=1 then sX w
  else if 2≤v.Kind∧v.Kind≤7 then (if 0≤v.A then (match w.Flight[v.A.toNat]? with | some p=>xW w v p | none=>w) else w)
  else if (8≤v.Kind∧v.Kind≤11)∧(1≤v.A∧v.A≤2) then BV w v
  else w
def VA:aC:=⟨noB,0,[],[],noB,[],[]⟩
def doM (w:aC) (v:c6):aC:=if aQ w then doW w v else VA
theorem oW:∀{l:List aN},FZ l→∃e f,l=[e,f]∧VEnd e∧e.Number=1∧VEnd f∧f.Number=2
  | [a,b],h=>⟨a,b,rfl,h.1.1,h.1.2,h.2.1,h.2.2⟩
theorem GH {e f:aN} (h1:VEnd e) (h2:e.Number=1) (h3:VEnd f) (h4:f.Number=2):FZ [e,f]:=⟨⟨h1,h2⟩,⟨h3,h4⟩⟩
theorem DJ {l:List aN} (h:FZ l) {n:Int} (hn:1≤n∧n≤2):VEnd (eJ n l)∧(eJ n l).Number=n:=by
  obtain ⟨e,f,rfl,h1,h2,h3,h4⟩:=oW h
  unfold eJ
  dsimp only
  split
  ·rename_i hh;exact ⟨h1,by omega⟩
  ·exact ⟨h3,by omega⟩
theorem PC {l:List aN} (h:FZ l) {n:Int} (hn:1≤n∧n≤2) {x:aN} (hx:VEnd x) (hx':x.Number=n):FZ (FE n x l):=by
  obtain ⟨e,f,rfl,h1,h2,h3,h4⟩:=oW h
  unfold FE
  dsimp only
  split
  ·rename_i hh;exact GH hx (by omega) h3 h4
  ·exact GH h1 h2 hx (by omega)
theorem GU {b:ByteArray} {wd to:Int} {out:List aE} {fl:List aD} (h:fl.length≤1000):(db_ b wd to out fl).length≤1000:=by
  unfold db_;simp;omega
theorem cX_ {b:ByteArray} {wd to:Int} {out:List aE} {fl:List aD} (h:vD fl) (ht:1≤to∧to≤2):vD (db_ b wd to out fl):=fun p hp=>by
  unfold db_ at hp
  simp only [List.mem_append] at hp
  rcases hp with hp | hp
  ·exact h p hp
  ·have:=List.mem_of_mem_take hp
   simp only [List.mem_map] at this
   obtain ⟨q,_,rfl⟩:=this
   have:=YQ q b wd
   exact ⟨ht,by show (zW q b wd).size≤100;omega,by show (zW q b wd).size≤100;omega⟩
theorem DF {w:aC} (h:aQ w):aQ (sX w):=by
  obtain ⟨h1,h2,h3,h4,h5,h6,h7,h8⟩:=h
  obtain ⟨e1,e2⟩:=DJ h5 (n:=1) (by omega)
  obtain ⟨f1,f2⟩:=DJ h5 (n:=2) (by omega)
  exact ⟨h1,h2,GU (GU h3),h4,GH (bx_ e1) ((RS e1).trans e2) (bx_ f1) ((RS f1).trans f2),cX_ (cX_ h6 (by omega)) (by omega),h7,h8⟩
theorem GR {w:aC} (h:aQ w) {p:aD} (hp:1≤p.To∧p.To≤2):aQ (oO w p):=by
  unfold oO
  split
  ·obtain ⟨h1,h2,h3,h4,h5,h6,h7,h8⟩:=h
   obtain ⟨e1,e2⟩:=DJ h5 hp
   exact ⟨h1,h2,h3,h4,PC h5 hp (d4_ _ e1) ((aB_ _ e1).trans e2),h6,h7,h8⟩
  ·exact h
theorem M7 {l:List aA} {r:aA} (h:oZ l) (hr:el_ r):oZ (l++[r]):=fun x hx=>by
  simp only [List.mem_append,List.mem_singleton] at hx
  rcases hx with hx | rfl
  ·exact h x hx
  ·exact hr
theorem OH {w:aC} (h:aQ w) {n:Int} (hn:1≤n∧n≤2):aQ (JP w n):=by
  unfold JP
  split
  ·rename_i hc
   obtain ⟨h1,h2,h3,h4,h5,h6,h7,h8⟩:=h
   obtain ⟨e1,e2⟩:=DJ h5 hn
   obtain ⟨g1,g2,g3,g4⟩:=ee_ e1 hc.2
   have hp:=e1.2.2.1
   exact ⟨h1,h2,h3,by simp only [List.length_append,List.length_singleton];omega,PC h5 hn g1 ((bi_ e1 hc.2).trans e2),h6,h7,M7 h8 ⟨by simp only;omega,by simp only;omega,e1.2.1,g4⟩⟩
  ·exact h
theorem dI_ {w:aC} (h:aQ w) {n:Int} (hn:1≤n∧n≤2) (t:ByteArray):aQ (P2 w n t):=by
  unfold P2
  split
  ·rename_i hc
   obtain ⟨h1,h2,h3,h4,h5,h6,h7,h8⟩:=h
   obtain ⟨e1,e2⟩:=DJ h5 hn
   obtain ⟨g1,g2,g3,g4⟩:=dY_ e1 hc.2
   have hp:=e1.2.2.1
   exact ⟨h1,h2,h3,by simp only [List.length_append,List.length_singleton];omega,PC h5 hn g1 ((aU_ e1 hc.2).trans e2),h6,M7 h7 ⟨by simp only;omega,e1.2.1,by simp only;omega,g4⟩,h8⟩
  ·exact h
theorem aG_ {w:aC} (h:aQ w) {n:Int} (hn:1≤n∧n≤2) {x:aN} (hx:VEnd x) (hx':x.Number=n):aQ (du_ w n x):=by
  obtain ⟨h1,h2,h3,h4,h5,h6,h7,h8⟩:=h
  exact ⟨h1,h2,h3,h4,PC h5 hn hx hx',h6,h7,h8⟩
theorem uD {w:aC} (h:aQ w) {fl:List aD} (h1:fl.length≤1000) (h2:vD fl):aQ (nP w fl):=by
  obtain ⟨g1,g2,g3,g4,g5,g6,g7,g8⟩:=h
  exact ⟨g1,g2,h1,g4,g5,h2,g7,g8⟩
theorem VD {l:List aD} (h:vD l) (i:Nat):vD (l.eraseIdx i):=fun p hp=>h p (List.mem_of_mem_eraseIdx hp)
theorem dJ_ {l:List aD} (h:vD l) (i:Nat) {q:aD} (hq:ZP q):vD (l.set i q):=fun p hp=>by
  rcases List.mem_or_eq_of_mem_set hp with h' | h'
  ·exact h p h'
  ·rw [h'];exact hq
theorem Y2 (s:ByteArray) (b c:Int):(bW_ s b c).size=s.size:=by
  unfold bW_;rw [tQ,List.length_set];unfold bB;simp
theorem dq_ {w:aC} (h:aQ w) (v:c6):aQ (doW w v):=by
  unfold doW
  split
  ·exact DF h
  ·split
   ·split
    ·split
     ·rename_i p hp
      have hv:ZP p:=h.2.2.2.2.2.1 p (List.mem_of_getElem? hp)
      have h6:=h.2.2.2.2.2.1
      have h3:=h.2.2.1
      have hel:(w.Flight.eraseIdx v.A.toNat).length≤1000:=by have:=List.length_eraseIdx_le w.Flight v.A.toNat;omega
      unfold xW
      split
      ·exact GR (uD h hel (VD h6 _)) hv.1
      ·split
       ·split
        ·refine uD h (by simp;omega) (fun q hq=> ?_)
         simp only [List.mem_append,List.mem_singleton] at hq
         rcases hq with hq | rfl
         ·exact h6 q hq
         ·exact hv
        ·exact h
       ·split
        ·exact uD h hel (VD h6 _)
        ·split
         ·split
          ·exact uD h (by simp;omega) (dJ_ h6 _ ⟨hv.1,hv.2.1,by show (bW_ p.Bytes v.B v.C).size≤100;rw [Y2];exact hv.2.2⟩)
          ·exact h
         ·split
          ·split
           ·exact uD h (by simp;omega) (dJ_ h6 _ ⟨hv.1,hv.2.1,by
              show (p.Bytes.extract 0 v.B.toNat).size≤100
              have:=hv.2.2
              rw [nH];omega⟩)
           ·exact h
          ·have hvt:=hv.1
           exact uD h (by simp;omega) (dJ_ h6 _ ⟨by show 1≤3-p.To∧3-p.To≤2;omega,hv.2.1,hv.2.2⟩)
     ·exact h
    ·exact h
   ·split
    ·rename_i hc
     have hn:=hc.2
     obtain ⟨e1,e2⟩:=DJ h.2.2.2.2.1 hn
     unfold BV
     split
     ·exact aG_ h hn (ea_ _ e1) ((bs_ e1).trans e2)
     ·split
      ·exact aG_ h hn (dX_ _ e1) ((aq_ e1).trans e2)
      ·split
       ·exact dI_ h hn _
       ·exact OH h hn
    ·exact h
theorem YE {w:aC} (h:aQ w) (v:c6):aQ (doM w v):=by unfold doM;rw [if_pos h];exact dq_ h v
theorem uF {l:List aN} (h:FZ l) {n:Int} (hn:1≤n∧n≤2):idx l (IntKind.wrap .i64 (n-1))=some (eJ n l)∧l[Int.toNat (IntKind.wrap .i64 (n-1))]? =some (eJ n l)∧∀x,l.set (Int.toNat (IntKind.wrap .i64 (n-1))) x=FE n x l:=by
  obtain ⟨e,f,rfl,_⟩:=oW h
  rw [bR (by omega) (by omega)]
  have hc:n=1∨n=2:=by omega
  rcases hc with rfl | rfl
  ·exact ⟨rfl,rfl,fun _=>rfl⟩
  ·exact ⟨rfl,rfl,fun _=>rfl⟩
theorem XU (b:ByteArray) (wd to:Int) (p:aE) (t:List aE) (fl:List aD) (h:fl.length<1000):fl++((p::t).map (ZL b wd to)).take (1000-fl.length)=(fl++[ZL b wd to p])++(t.map (ZL b wd to)).take (1000-(fl++[ZL b wd to p]).length):=by
  rw [List.map_cons,show 1000-fl.length=(1000-(fl.length+1))+1 by omega,List.take_succ_cons]
  simp
theorem W6 (b:ByteArray) (wd to:Int) (t:List aE) (fl:List aD) (h:¬fl.length<1000):fl++(t.map (ZL b wd to)).take (1000-fl.length)=fl:=by
  rw [show 1000-fl.length=0 by omega];simp
theorem dD_ (K Fo:ByteArray) (W:Int) (Gi Ta:List aA) (Es:List aN) (i n i':Int) (hi:0≤i∧i≤1) {Q:aC→Prop}:∀(t pre:List aE) (fl:List aD),(pre++t).length≤1000→fl.length≤1000→
    Wp (fun k=>cN k n (IntKind.wrap .i64 (i'+1)) K W Fo Es (fl++(t.map (ZL K W (2-i))).take (1000-fl.length)) Gi Ta) Q→
    Wp (fun k=>eA k i n i' ((pre++t).length:Int) (pre.length:Int) K W Fo (pre++t) Es fl Gi Ta) Q
  | [],pre,fl,hl,hf,h=>by
    refine Wp.step ?_
    simp only [eA,List.append_nil]
    simp (disch:=omega) only [aL,if_neg]
    simpa using h
  | p::t,pre,fl,hl,hf,h=>by
    refine Wp.step ?_
    have hl':=hl
    simp only [List.length_append,List.length_cons] at hl
    simp only [eA]
    simp only [aL,hP,if_true,bJ,jQ,Option.bind_some]
    have ih:=fun (fl2:List aD) (h2:fl2.length≤1000) (hh:Wp (fun k=>cN k n (IntKind.wrap .i64 (i'+1)) K W Fo Es (fl2++(t.map (ZL K W (2-i))).take (1000-fl2.length)) Gi Ta) Q)=>dD_ K Fo W Gi Ta Es i n i' hi t (pre++[p]) fl2 (by simpa using hl') h2 hh
    simp only [←cK,←bS] at ih
    refine Wp.ite (fun hc=> ?_) (fun hc=> ?_)
    ·refine Wp.bind (IS p K W) (fun _ q=> ?_);subst q
     rw [bR (n:=2-i) (by omega) (by omega)]
     refine Wp.opt (bI (by simp;omega)) ?_
     refine Wp.step ?_
     simp only [fB]
     rw [bR (n:=(pre.length:Int)+1) (by omega) (by omega)]
     refine ih (fl++[ZL K W (2-i) p]) (by simp;omega) ?_
     rw [←XU K W (2-i) p t fl (by omega)];exact h
    ·refine Wp.step ?_
     simp only [fB]
     rw [bR (n:=(pre.length:Int)+1) (by omega) (by omega)]
     refine ih fl hf ?_
     rw [W6 _ _ _ _ _ (by omega)] at h⊢;exact h
theorem EV (w:aC) (h:aQ w):Wp (fun k=>j7 k w) (· =sX w):=by
  obtain ⟨K,W,Es,Fl,Fo,Gi,Ta⟩:=w
  obtain ⟨h1,h2,h3,h4,h5,h6,h7,h8⟩:=h
  obtain ⟨e,f,he,e1,e2,f1,f2⟩:=oW h5
  dsimp only at he;subst he
  have he1:=CF e1
  have hf1:=CF f1
  unfold j7
  have len2:(([e,f]:List aN).length:Int)=2:=rfl
  have len2':∀x:aN,(([x,f]:List aN).length:Int)=2:=fun _=>rfl
  dsimp only
  rw [len2]
  refine Wp.step ?_
  simp only [cN]
  have i0:∀x y:aN,idx [x,y] 0=some x:=fun _ _=>rfl
  have g0:∀x y:aN,[x,y][Int.toNat 0]? =some x:=fun _ _=>rfl
  have s0:∀x y z:aN,[x,y].set (Int.toNat 0) z=[z,y]:=fun _ _ _=>rfl
  have i1:∀x y:aN,idx [x,y] 1=some y:=fun _ _=>rfl
  have g1:∀x y:aN,[x,y][Int.toNat 1]? =some y:=fun _ _=>rfl
  have s1:∀x y z:aN,[x,y].set (Int.toNat 1) z=[x,z]:=fun _ _ _=>rfl
  simp (disch:=omega) only [aL,if_pos,i0,g0,Option.bind_some]
  refine Wp.bind (EH e) (fun _ q=> ?_);subst q
  rw [s0]
  refine dD_ K Fo W Gi Ta _ 0 2 0 (by omega) (rE e).Out [] Fl (by simp;omega) h3 ?_
  rw [bR (n:=(0:Int)+1) (by omega) (by omega)]
  refine Wp.step ?_
  simp only [cN]
  simp (disch:=omega) only [aL,if_pos,Int.zero_add,i1,g1,Option.bind_some]
  refine Wp.bind (EH f) (fun _ q=> ?_);subst q
  rw [s1]
  have hpl:=GU (b:=K) (wd:=W) (to:=2) (out:=(rE e).Out) (show Fl.length≤1000 from h3)
  refine dD_ K Fo W Gi Ta _ 1 2 1 (by omega) (rE f).Out [] (db_ K W 2 (rE e).Out Fl) (by simp;omega) hpl ?_
  rw [bR (n:=(1:Int)+1) (by omega) (by omega)]
  refine Wp.step ?_
  simp only [cN]
  simp (disch:=omega) only [aL,if_neg]
  exact Wp.ret rfl
theorem ZR (K Fo k1 k2 k3 Op Tx:ByteArray) (W z:Int) (c n:Int) (u:Bool) (li p s:Int) (o:Bool) (b nx:Int) (Gi Ta:List aA) (Es E2:List aN) (F2:List aD) (G2 T2:List aA) (i:Int) (hi:0≤i∧i≤1) {Q:aC→Prop}:∀(t pre:List aE) (fl:List aD),(pre++t).length≤1000→fl.length≤1000→
    Wp (fun k=>dW k (IntKind.wrap .i64 (i+1)) K W Fo k1 z k2 Es (fl++(t.map (ZL K W (2-i))).take (1000-fl.length)) Gi Ta E2 F2 G2 T2) Q→
    Wp (fun k=>jD k i (pre.length:Int) K W Fo k1 z k2 c n u li p s o b nx Op Tx Es fl Gi Ta E2 F2 G2 T2 (pre++t)) Q
  | [],pre,fl,hl,hf,h=>by
    refine Wp.step ?_
    simp only [jD,List.append_nil]
    simp (disch:=omega) only [aL,if_neg]
    simpa using h
  | q::t,pre,fl,hl,hf,h=>by
    refine Wp.step ?_
    have hl':=hl
    simp only [List.length_append,List.length_cons] at hl
    simp only [jD]
    simp only [aL,hP,if_true,bJ,jQ,Option.bind_some]
    have ih:=fun (fl2:List aD) (h2:fl2.length≤1000) (hh:Wp (fun k=>dW k (IntKind.wrap .i64 (i+1)) K W Fo k1 z k2 Es (fl2++(t.map (ZL K W (2-i))).take (1000-fl2.length)) Gi Ta E2 F2 G2 T2) Q)=>ZR K Fo k1 k2 k3 Op Tx W z c n u li p s o b nx Gi Ta Es E2 F2 G2 T2 i hi t (pre++[q]) fl2 (by simpa using hl') h2 hh
    simp only [←cK,←bS] at ih
    refine Wp.ite (fun hc=> ?_) (fun hc=> ?_)
    ·refine Wp.bind (HM q K W) (fun _ e=> ?_);subst e
     rw [bR (n:=2-i) (by omega) (by omega)]
     refine Wp.opt (bI (by simp;omega)) ?_
     rw [bR (n:=(pre.length:Int)+1) (by omega) (by omega)]
     refine ih (fl++[ZL K W (2-i) q]) (by simp;omega) ?_
     rw [←XU K W (2-i) q t fl (by omega)];exact h
    ·rw [W6 _ _ _ _ _ (by omega)] at h;exact h
theorem EM (w:aC) (h:aQ w):Wp (fun k=>qH k w) (· =sX w):=by
  obtain ⟨K,W,Es,Fl,Fo,Gi,Ta⟩:=w
  obtain ⟨h1,h2,h3,h4,h5,h6,h7,h8⟩:=h
  obtain ⟨e,f,he,e1,e2,f1,f2⟩:=oW h5
  dsimp only at he;subst he
  have he1:=CF e1
  have hf1:=CF f1
  unfold qH
  dsimp only
  refine Wp.step ?_
  simp only [dW]
  have i0:∀x y:aN,idx [x,y] 0=some x:=fun _ _=>rfl
  have g0:∀x y:aN,[x,y][Int.toNat 0]? =some x:=fun _ _=>rfl
  have s0:∀x y z:aN,[x,y].set (Int.toNat 0) z=[z,y]:=fun _ _ _=>rfl
  have i1:∀x y:aN,idx [x,y] 1=some y:=fun _ _=>rfl
  have g1:∀x y:aN,[x,y][Int.toNat 1]? =some y:=fun _ _=>rfl
  have s1:∀x y z:aN,[x,y].set (Int.toNat 1) z=[x,z]:=fun _ _ _=>rfl
  simp (disch:=omega) only [aL,if_pos,i0,g0,Option.bind_some]
  refine Wp.bind (EG e) (fun _ q=> ?_);subst q
  rw [s0]
  refine ZR K Fo _ _ noB _ _ W _ _ _ _ _ _ _ _ _ _ Gi Ta _ _ _ _ _ 0 (by omega) (rE e).Out [] Fl (by simp;omega) h3 ?_
  rw [bR (n:=(0:Int)+1) (by omega) (by omega)]
  refine Wp.step ?_
  simp only [dW]
  simp (disch:=omega) only [aL,if_pos,Int.zero_add,i1,g1,Option.bind_some]
  refine Wp.bind (EG f) (fun _ q=> ?_);subst q
  rw [s1]
  have hpl:=GU (b:=K) (wd:=W) (to:=2) (out:=(rE e).Out) (show Fl.length≤1000 from h3)
  refine ZR K Fo _ _ noB _ _ W _ _ _ _ _ _ _ _ _ _ Gi Ta _ _ _ _ _ 1 (by omega) (rE f).Out [] (db_ K W 2 (rE e).Out Fl) (by simp;omega) hpl ?_
  rw [bR (n:=(1:Int)+1) (by omega) (by omega)]
  refine Wp.step ?_
  simp only [dW]
  simp (disch:=omega) only [aL,if_neg]
  exact Wp.ret rfl
theorem dO_ (K Fo B Sn By:ByteArray) (W:Int) (p:aD) (q:aE) (Es:List aN) (Fl:List aD) (Gi Ta:List aA) (h5:FZ Es) (hp:1≤p.To∧p.To≤2):Wp (fun k=>dN k K W Fo p.To p.Sent p.Bytes q.Kind q.From q.Mine q.Yours q.Next q.Mask q.Seq q.Last q.Part Es Fl Gi Ta) (· =⟨K,W,FE p.To (JT (eJ p.To Es) q).End Es,Fl,Fo,Gi,Ta⟩):=by
  refine Wp.step ?_
  simp only [dN]
  obtain ⟨a1,a2,a3⟩:=uF h5 hp
  simp only [a1,a2,a3,Option.bind_some]
  refine Wp.bind (R4 _ _) (fun _ e=> ?_);subst e
  exact Wp.ret rfl
theorem BJ (w:aC) (h:aQ w) (p:aD) (hp:1≤p.To∧p.To≤2) (hs:p.Bytes.size≤100):Wp (fun k=>fK k w p) (· =oO w p):=by
  obtain ⟨K,W,Es,Fl,Fo,Gi,Ta⟩:=w
  have h5:=h.2.2.2.2.1
  unfold fK oO
  refine Wp.bind (UR p.Bytes K W (by omega)) (fun _ e=> ?_);subst e
  dsimp only
  simp only [b9]
  refine Wp.bif (fun hr=> ?_) (fun hr=>Wp.ret (by rw [if_neg (by simp [hr])]))
  rw [if_pos hr]
  simp only [nO]
  refine Wp.ite (fun hb=> ?_) (fun hb=> ?_)
  ·refine (dO_ K Fo noB noB noB W p _ Es Fl Gi Ta h5 hp).mono fun r hr=> ?_
   rw [hr,if_neg (by simp [hb])]
  ·refine Wp.ite (fun hf=> ?_) (fun hf=> ?_)
   ·refine (dO_ K p.Bytes noB noB noB W p _ Es Fl Gi Ta h5 hp).mono fun r hr=> ?_
    rw [hr,if_pos ⟨hb,hf⟩]
   ·refine (dO_ K Fo noB noB noB W p _ Es Fl Gi Ta h5 hp).mono fun r hr=> ?_
    rw [hr,if_neg (fun g=>hf g.2)]
theorem W2 (l:List aD) (i:Nat) (h:i<l.length):l.take i++l.drop (i+1)=l.eraseIdx i:=(List.eraseIdx_eq_take_drop_succ l i).symm
theorem IL {α:Type} (l:List α) (i:Nat):iF l 0 i=l.take i:=by simp [iF]
theorem wU {α:Type} (l:List α) (i:Nat):iF l i l.length=l.drop i:=by simp [iF]
theorem DL (l:List aD) (i:Nat) (h:i<l.length) (hl:l.length≤1000):Wp (fun k=>i8 k l (i:Int)) (· =l.eraseIdx i):=by
  unfold i8
  refine Wp.opt (dF ⟨by omega,by omega,by omega⟩) ?_
  dsimp only
  rw [Int.toNat_natCast,show Int.toNat 0=0 from rfl,IL]
  refine Wp.opt (bI (by simp;omega)) ?_
  rw [bR (by omega) (by omega)]
  refine Wp.opt (dF ⟨by omega,by omega,by omega⟩) ?_
  dsimp only
  rw [Int.toNat_natCast,show Int.toNat ((i:Int)+1)=i+1 by omega,wU]
  refine Wp.opt (bI (by simp;omega)) ?_
  refine Wp.ret ?_
  rw [←W2 l i h];simp
theorem d7_ (K Fo k1 k2:ByteArray) (W z:Int) (p:aD) (q:aE) (Es E2:List aN) (Fl F2:List aD) (Gi Ta G2 T2:List aA) (h5:FZ Es) (hp:1≤p.To∧p.To≤2):Wp (fun k=>gU k K W Fo k1 z k2 p.To p.Sent p.Bytes q.Kind q.From q.Mine q.Yours q.Next q.Mask q.Seq q.Last q.Part Es Fl Gi Ta E2 F2 G2 T2) (· =⟨K,W,FE p.To (JT (eJ p.To Es) q).End Es,Fl,Fo,Gi,Ta⟩):=by
  refine Wp.step ?_
  simp only [gU]
  obtain ⟨a1,a2,a3⟩:=uF h5 hp
  simp only [a1,a2,a3,Option.bind_some]
  refine Wp.bind (PN _ _) (fun _ e=> ?_);subst e
  exact Wp.ret rfl
theorem CM (w:aC) (h:aQ w) (i:Nat) {p:aD} (hi:w.Flight[i]? =some p):Wp (fun k=>oQ k w (i:Int)) (· =oO (nP w (w.Flight.eraseIdx i)) p):=by
  have hv:ZP p:=h.2.2.2.2.2.1 p (List.mem_of_getElem? hi)
  have hlt:=(List.getElem?_eq_some_iff.mp hi).1
  obtain ⟨K,W,Es,Fl,Fo,Gi,Ta⟩:=w
  have h5:=h.2.2.2.2.1
  have h3:=h.2.2.1
  dsimp only at hi hlt h3 h5
  unfold oQ oO nP
  dsimp only
  have e1:idx Fl (i:Int)=some p:=by rw [j8];exact hi
  have e2:Fl[Int.toNat (i:Int)]? =some p:=by rw [Int.toNat_natCast];exact hi
  simp only [e1,e2,Option.bind_some]
  refine Wp.bind (DL Fl i hlt h3) (fun _ e=> ?_);subst e
  refine Wp.bind (TP p.Bytes K W (by have:=hv.2.2;omega)) (fun _ e=> ?_);subst e
  simp only [b9]
  refine Wp.bif (fun hr=> ?_) (fun hr=>Wp.ret (by rw [if_neg (by simp [hr])]))
  rw [if_pos hr]
  simp only [nO]
  refine Wp.ite (fun hb=> ?_) (fun hb=> ?_)
  ·refine (d7_ K Fo _ _ W _ p _ Es _ _ _ Gi Ta _ _ h5 hv.1).mono fun r hr=> ?_
   rw [hr,if_neg (by simp [hb])]
  ·refine Wp.ite (fun hf=> ?_) (fun hf=> ?_)
   ·refine (d7_ K p.Bytes _ _ W _ p _ Es _ _ _ Gi Ta _ _ h5 hv.1).mono fun r hr=> ?_
    rw [hr,if_pos ⟨hb,hf⟩]
   ·refine (d7_ K Fo _ _ W _ p _ Es _ _ _ Gi Ta _ _ h5 hv.1).mono fun r hr=> ?_
    rw [hr,if_neg (fun g=>hf g.2)]
theorem W7 {a b:Nat} (h:a+b≤400):IntKind.wrap .i64 ((a:Int)+(b:Int))=((a+b:Nat):Int):=by rw [bR (by omega) (by omega)];omega
theorem EP (w:aC) (h:aQ w) (n:Int) (hn:1≤n∧n≤2):Wp (fun k=>jP k w n) (· =JP w n):=by
  obtain ⟨K,W,Es,Fl,Fo,Gi,Ta⟩:=w
  have h5:=h.2.2.2.2.1
  have h4:=h.2.2.2.1
  dsimp only at h4 h5
  unfold jP j4 JP
  dsimp only
  simp only [Option.bind_some,W7 h4,aL]
  refine Wp.ite (fun hc=>Wp.ret (by rw [if_neg (by omega)])) (fun hc=> ?_)
  obtain ⟨a1,a2,a3⟩:=uF h5 hn
  simp only [a1,a2,a3,Option.bind_some]
  refine Wp.bind (E4 _) (fun _ e=> ?_);subst e
  simp only [lW]
  refine Wp.ite (fun h0=> ?_) (fun h0=>Wp.ret (by rw [if_neg (fun g=>h0 g.2)]))
  rw [bR (n:=3-n) (by omega) (by omega)]
  refine Wp.opt (bI (by simp;omega)) ?_
  exact Wp.ret (by rw [if_pos ⟨by omega,h0⟩])
theorem EY (K Fo a c:ByteArray) (W b:Int) (Es:List aN) (Fl:List aD) (Gi Ta:List aA) (E2:List aN) (F2:List aD) (G2 T2:List aA):Wp (fun k=>cH k K W Fo a b c Es Fl Gi Ta E2 F2 G2 T2) (· =⟨K,W,Es,Fl,Fo,Gi,Ta⟩):=by
  refine Wp.step ?_
  simp only [cH]
  exact Wp.ret rfl
theorem cM_ (K Fo a c:ByteArray) (W b:Int) (Es:List aN) (Fl:List aD) (Gi Ta:List aA) (E2:List aN) (F2:List aD) (G2 T2:List aA):Wp (fun k=>hC k K W Fo a b c Es Fl Gi Ta E2 F2 G2 T2) (· =⟨K,W,Es,Fl,Fo,Gi,Ta⟩):=by
  refine Wp.step ?_
  simp only [hC]
  exact Wp.ret rfl
theorem HY (K Fo a c:ByteArray) (W b:Int) (Es:List aN) (Fl:List aD) (Gi Ta:List aA) (E2:List aN) (F2:List aD) (G2 T2:List aA):Wp (fun k=>aR k a b c K W Fo E2 F2 G2 T2 Es Fl Gi Ta) (· =⟨K,W,Es,Fl,Fo,Gi,Ta⟩):=by
  refine Wp.step ?_
  simp only [aR]
  exact Wp.ret rfl
theorem b9_ {α:Type} {l:List α} {i:Nat} {p:α} (h:l[i]? =some p):l.set i p=l:=by
  obtain ⟨h1,h2⟩:=List.getElem?_eq_some_iff.mp h
  subst h2;exact List.set_getElem_self h1
theorem NA (w:aC) (h:aQ w) (v:c6) (hk:8≤v.Kind∧v.Kind≤11) (hn:1≤v.A∧v.A≤2):Wp (fun k=>qB k w v) (· =BV w v):=by
  obtain ⟨K,W,Es,Fl,Fo,Gi,Ta⟩:=w
  have h5:=h.2.2.2.2.1
  have h4:=h.2.2.2.1
  dsimp only at h4 h5
  obtain ⟨a1,a2,a3⟩:=uF h5 hn
  unfold qB BV
  dsimp only
  simp only [a1,a2,a3,Option.bind_some,lW]
  refine Wp.ite (fun e=> ?_) (fun e=> ?_)
  ·refine Wp.bind (U1 _) (fun _ e'=> ?_);subst e'
   exact (EY ..).mono fun r hr=>by rw [hr,if_pos e];rfl
  rw [if_neg e]
  refine Wp.ite (fun e=> ?_) (fun e=> ?_)
  ·refine Wp.bind (T5 _) (fun _ e'=> ?_);subst e'
   exact (EY ..).mono fun r hr=>by rw [hr,if_pos e];rfl
  rw [if_neg e]
  refine Wp.ite (fun e=> ?_) (fun e=> ?_)
  ·rw [if_pos e]
   refine Wp.bind (EU _ _) (fun _ e'=> ?_);subst e'
   simp only [W7 h4,aL]
   unfold P2
   dsimp only
   refine Wp.ite (fun h0=> ?_) (fun h0=> ?_)
   ·refine Wp.ite (fun h1=> ?_) (fun h1=> ?_)
    ·refine Wp.opt (bI (by simp;omega)) ?_
     exact (EY ..).mono fun r hr=>by rw [hr,if_pos ⟨by omega,h0⟩]
    ·exact (EY ..).mono fun r hr=>by rw [hr,if_neg (fun g=>by omega)]
   ·exact (EY ..).mono fun r hr=>by rw [hr,if_neg (fun g=>h0 g.2)]
  rw [if_neg e]
  refine Wp.ite (fun e=> ?_) (fun e=>by omega)
  refine Wp.bind (EQ _) (fun _ e'=> ?_);subst e'
  simp only [W7 h4,aL]
  unfold JP
  dsimp only
  refine Wp.ite (fun h0=> ?_) (fun h0=> ?_)
  ·refine Wp.ite (fun h1=> ?_) (fun h1=> ?_)
   ·rw [bR (n:=3-v.A) (by omega) (by omega)]
    refine Wp.opt (bI (by simp;omega)) ?_
    exact (EY ..).mono fun r hr=>by rw [hr,if_pos ⟨by omega,h0⟩]
   ·exact (EY ..).mono fun r hr=>by rw [hr,if_neg (fun g=>by omega)]
  ·exact (EY ..).mono fun r hr=>by rw [hr,if_neg (fun g=>h0 g.2)]
theorem D7 (K Fo a c Tx:ByteArray) (W b Kd A B C To:Int) (Sn By:ByteArray) (Es:List aN) (Fl:List aD) (Gi Ta:List aA) (E2:List aN) (F2:List aD) (G2 T2:List aA) {p:aD} (h1:idx Fl A=some p) (h2:Fl[Int.toNat A]? =some p):Wp (fun k=>bL k K W Fo Kd A B C Tx a b c To Sn By Es Fl Gi Ta E2 F2 G2 T2) (· =⟨K,W,Es,Fl.set A.toNat ⟨To,Sn,By⟩,Fo,Gi,Ta⟩):=by
  refine Wp.step ?_
  simp only [bL,h1,h2,Option.bind_some]
  exact Wp.ret rfl
theorem WT {s:ByteArray} {b:Int} (h:0≤b∧b<s.size):idx (bB s) b=some ((bB s).getD b.toNat 0)∧(bB s)[b.toNat]? =some ((bB s).getD b.toNat 0):=by
  have hl:b.toNat<(bB s).length:=by
    have:(bB s).length=s.size:=by unfold bB;rw [List.length_map,Array.length_toList];rfl
    omega
  have e:(bB s)[b.toNat]? =some ((bB s).getD b.toNat 0):=by rw [List.getD_eq_getElem?_getD,List.getElem?_eq_getElem hl];rfl
  refine ⟨?_,e⟩
  have:=j8 (bB s) b.toNat
  rw [Int.toNat_of_nonneg h.1] at this
  rw [this,e]
theorem PE (w:aC) (h:aQ w) (v:c6) (hk:2≤v.Kind∧v.Kind≤7) (h0:0≤v.A) {p:aD} (hp:w.Flight[v.A.toNat]? =some p):Wp (fun k=>pU k w v) (· =xW w v p):=by
  have hv:ZP p:=h.2.2.2.2.2.1 p (List.mem_of_getElem? hp)
  have hlt:=(List.getElem?_eq_some_iff.mp hp).1
  have hb:=CM w h v.A.toNat hp
  have hwo:=DL w.Flight v.A.toNat hlt h.2.2.1
  have hix:idx w.Flight v.A=some p:=by have:=j8 w.Flight v.A.toNat;rw [Int.toNat_of_nonneg h0] at this;rw [this,hp]
  rw [Int.toNat_of_nonneg h0] at hb hwo
  obtain ⟨K,W,Es,Fl,Fo,Gi,Ta⟩:=w
  have h3:=h.2.2.1
  dsimp only at hp hlt h3 hwo hix
  unfold pU xW
  dsimp only
  simp only [hix,hp,Option.bind_some,lW]
  refine Wp.ite (fun e=> ?_) (fun e=> ?_)
  ·refine Wp.bind hb (fun _ e'=> ?_);subst e'
   exact Wp.ret (by rw [if_pos e])
  rw [if_neg e]
  refine Wp.ite (fun e4=> ?_) (fun e4=> ?_)
  ·refine Wp.bind hwo (fun _ e'=> ?_);subst e'
   exact Wp.ret (by rw [if_neg (by omega),if_pos e4];rfl)
  refine Wp.ite (fun e=> ?_) (fun e=> ?_)
  ·rw [if_pos e]
   refine Wp.dec (fun hl=> ?_) (fun hl=> ?_)
   ·refine Wp.opt (bI (by simp;omega)) ?_
    exact (cM_ ..).mono fun r hr=>by rw [hr,if_pos (by omega)];rfl
   ·exact (cM_ ..).mono fun r hr=>by rw [hr,if_neg (by omega)]
  rw [if_neg e,if_neg e4]
  have same:Fl.set v.A.toNat ⟨p.To,p.Sent,p.Bytes⟩=Fl:=b9_ hp
  refine Wp.ite (fun e=> ?_) (fun e=> ?_)
  ·rw [if_pos e]
   refine Wp.dec (fun h1=> ?_) (fun h1=> ?_)
   ·refine Wp.dec (fun h2=> ?_) (fun h2=> ?_)
    ·refine Wp.dec (fun h3=> ?_) (fun h3=> ?_)
     ·obtain ⟨b1,b2⟩:=WT (s:=p.Bytes) (b:=v.B) ⟨h1,h2⟩
      simp only [b1,b2,Option.bind_some]
      refine Wp.opt (nW h3 (by omega)) ?_
      exact (D7 (h1:=hix) (h2:=hp) ..).mono fun r hr=>by rw [hr,if_pos ⟨⟨h1,h2⟩,h3⟩];rfl
     ·exact (D7 (h1:=hix) (h2:=hp) ..).mono fun r hr=>by rw [hr,if_neg (fun g=>h3 g.2),same]
    ·exact (D7 (h1:=hix) (h2:=hp) ..).mono fun r hr=>by rw [hr,if_neg (fun g=>h2 g.1.2),same]
   ·exact (D7 (h1:=hix) (h2:=hp) ..).mono fun r hr=>by rw [hr,if_neg (fun g=>h1 g.1.1),same]
  rw [if_neg e]
  refine Wp.ite (fun e=> ?_) (fun e=> ?_)
  ·rw [if_pos e]
   refine Wp.dec (fun h1=> ?_) (fun h1=> ?_)
   ·refine Wp.dec (fun h2=> ?_) (fun h2=> ?_)
    ·refine Wp.opt (dF ⟨by omega,h1,h2⟩) ?_
     exact (D7 (h1:=hix) (h2:=hp) ..).mono fun r hr=>by rw [hr,if_pos ⟨h1,h2⟩];rfl
    ·exact (D7 (h1:=hix) (h2:=hp) ..).mono fun r hr=>by rw [hr,if_neg (fun g=>h2 g.2),same]
   ·exact (D7 (h1:=hix) (h2:=hp) ..).mono fun r hr=>by rw [hr,if_neg (fun g=>h1 g.1),same]
  rw [if_neg e]
  refine Wp.ite (fun e=> ?_) (fun e=>by omega)
  have:=hv.1
  exact (D7 (h1:=hix) (h2:=hp) ..).mono fun r hr=>by rw [hr,bR (n:=3-p.To) (by omega) (by omega)];rfl
theorem UQ {w:aC} {v:c6} {p:aD} (hk:2≤v.Kind∧v.Kind≤7) (h0:0≤v.A) (hp:w.Flight[v.A.toNat]? =some p):doW w v=xW w v p:=by
  unfold doW;rw [if_neg (by omega),if_pos hk,if_pos h0,hp]
theorem AF {w:aC} {v:c6} (hk:2≤v.Kind∧v.Kind≤7) (h0:¬(0≤v.A∧v.A<w.Flight.length)):doW w v=w:=by
  unfold doW;rw [if_neg (by omega),if_pos hk]
  split
  ·rename_i h;rw [List.getElem?_eq_none (by omega)]
  ·rfl
theorem aL_ {w:aC} {v:c6} (hk:8≤v.Kind∧v.Kind≤11) (h0:1≤v.A∧v.A≤2):doW w v=BV w v:=by
  unfold doW;rw [if_neg (by omega),if_neg (by omega),if_pos ⟨hk,h0⟩]
theorem GM {w:aC} {v:c6} (hk:¬(1≤v.Kind∧v.Kind≤11)∨(8≤v.Kind∧¬(1≤v.A∧v.A≤2))):doW w v=w:=by
  unfold doW;rw [if_neg (by omega),if_neg (by omega),if_neg (by omega)]
theorem YX (w:aC) (h:aQ w) (v:c6):Wp (fun k=>BG k w v) (· =doW w v):=by
  have h3:=h.2.2.1
  unfold BG
  simp only [lW]
  refine Wp.ite (fun e=> ?_) (fun e=> ?_)
  ·refine Wp.bind (EM w h) (fun _ e'=> ?_);subst e'
   exact Wp.ret (by unfold doW;rw [if_pos e])
  refine Wp.bind (dO _ _ _) (fun _ e'=> ?_);subst e'
  refine Wp.bif (fun hb=> ?_) (fun hb=> ?_)
  ·simp only [Bool.and_eq_true,decide_eq_true_eq] at hb
   refine Wp.bind (dO _ _ _) (fun _ e'=> ?_);subst e'
   rw [bR (n:=(w.Flight.length:Int)-1) (by omega) (by omega)]
   refine Wp.bif (fun ha=> ?_) (fun ha=> ?_)
   ·simp only [Bool.and_eq_true,decide_eq_true_eq] at ha
    have hg:w.Flight[v.A.toNat]? =some (w.Flight[v.A.toNat]'(by omega)):=List.getElem?_eq_getElem (by omega)
    refine Wp.bind (PE w h v hb ha.1 hg) (fun _ e'=> ?_);subst e'
    exact Wp.ret (UQ hb ha.1 hg).symm
   ·simp only [Bool.and_eq_false_iff,decide_eq_false_iff_not] at ha
    refine Wp.bind (dO _ _ _) (fun _ e'=> ?_);subst e'
    refine Wp.bif (fun h8=> ?_) (fun h8=>Wp.ret (AF hb (by omega)).symm)
    simp only [Bool.and_eq_true,decide_eq_true_eq] at h8
    omega
  ·simp only [Bool.and_eq_false_iff,decide_eq_false_iff_not] at hb
   refine Wp.bind (dO _ _ _) (fun _ e'=> ?_);subst e'
   refine Wp.bif (fun h8=> ?_) (fun h8=> ?_)
   ·simp only [Bool.and_eq_true,decide_eq_true_eq] at h8
    refine Wp.bind (dO _ _ _) (fun _ e'=> ?_);subst e'
    refine Wp.bif (fun ha=> ?_) (fun ha=> ?_)
    ·simp only [Bool.and_eq_true,decide_eq_true_eq] at ha
     refine Wp.bind (NA w h v h8 ha) (fun _ e'=> ?_);subst e'
     exact Wp.ret (aL_ h8 ha).symm
    ·simp only [Bool.and_eq_false_iff,decide_eq_false_iff_not] at ha
     exact Wp.ret (GM (.inr ⟨h8.1,by omega⟩)).symm
   ·simp only [Bool.and_eq_false_iff,decide_eq_false_iff_not] at h8
    exact Wp.ret (GM (.inl (by omega))).symm
theorem PY (K Fo K' Fo' a c:ByteArray) (W W' b:Int) (Fl Fl':List aD) (Gi Ta Gi' Ta':List aA) (E2:List aN) (F2:List aD) (G2 T2:List aA) (hf:Fl.length≤1000) (hg:Gi.length≤1000) (ht:Ta.length≤1000):∀(t pre:List aN),(pre++t).length≤1000→(∀e∈t,VEnd e)→
    Wp (fun k=>jC k (pre.length:Int) K W (pre++t) Fl Fo Gi Ta a b c K' W' Fl' Fo' Gi' Ta' E2 F2 G2 T2 pre) (· =⟨K',W',pre++t,Fl,Fo',Gi,Ta⟩)
  | [],pre,hl,hv=>by
    refine Wp.step ?_
    simp only [jC]
    simp only [List.append_nil] at hl⊢
    simp (disch:=omega) only [aL,if_neg]
    refine Wp.opt (bI (by simp;omega)) ?_
    refine Wp.opt (bI (by simp;omega)) ?_
    refine Wp.opt (bI (by simp;omega)) ?_
    exact Wp.ret (by simp)
  | e::t,pre,hl,hv=>by
    refine Wp.step ?_
    simp only [jC]
    simp only [aL]
    simp only [List.length_append,List.length_cons] at hl
    refine Wp.ite (fun _=> ?_) (fun hx=>absurd (by simp;omega) hx)
    simp only [bJ,Option.bind_some]
    refine Wp.bind (oN e (hv e (by simp))) (fun _ e'=> ?_);have e'':=e'.symm;subst e''
    refine Wp.opt (bI (by simp;omega)) ?_
    rw [bR (n:=(pre.length:Int)+1) (by omega) (by omega)]
    have:=PY K Fo K' Fo' a c W W' b Fl Fl' Gi Ta Gi' Ta' E2 F2 G2 T2 hf hg ht t (pre++[e]) (by simp;omega) (fun x hx=>hv x (by simp [hx]))
    simpa using this
theorem sC (w:aC) (h:aQ w):Wp (fun k=>iC k w) (· =w):=by
  obtain ⟨K,W,Es,Fl,Fo,Gi,Ta⟩:=w
  have h5:=h.2.2.2.2.1
  have h4:=h.2.2.2.1
  have h3:=h.2.2.1
  dsimp only at h3 h4 h5
  obtain ⟨e,f,rfl,a1,_,a2,_⟩:=oW h5
  unfold iC
  have:=PY K Fo K Fo noB noB W W 0 Fl Fl Gi Ta Gi Ta [] [] [] [] (by omega) (by omega) (by omega) [e,f] [] (by simp) (by simp [a1,a2])
  simpa using this
theorem ES (w:aC) (h:aQ w):Wp (fun k=>kY k w) (· =w):=by
  obtain ⟨K,W,Es,Fl,Fo,Gi,Ta⟩:=w
  have h5:=h.2.2.2.2.1
  have h4:=h.2.2.2.1
  have h3:=h.2.2.1
  dsimp only at h3 h4 h5
  obtain ⟨e,f,rfl,a1,_,a2,_⟩:=oW h5
  unfold kY
  refine Wp.opt (bI (by simp)) ?_
  refine Wp.step ?_
  simp only [eU]
  simp only [List.nil_append,List.length_cons,List.length_nil,aL]
  refine Wp.ite (fun _=> ?_) (fun hx=>by omega)
  refine Wp.opt (x:=e) rfl ?_
  refine Wp.opt (x:=e) rfl ?_
  refine Wp.bind (mA e a1) (fun _ e'=> ?_);have e'':=e'.symm;subst e''
  refine Wp.opt (x:=e) rfl ?_
  refine Wp.opt (x:=e) rfl ?_
  rw [show IntKind.wrap .i64 (0+1)=1 by rfl]
  refine Wp.step ?_
  simp only [eU,aL]
  refine Wp.ite (fun _=> ?_) (fun hx=>by omega)
  refine Wp.opt (x:=f) rfl ?_
  refine Wp.opt (x:=f) rfl ?_
  refine Wp.bind (mA f a2) (fun _ e'=> ?_);have e'':=e'.symm;subst e''
  refine Wp.opt (x:=f) rfl ?_
  refine Wp.opt (x:=f) rfl ?_
  rw [show IntKind.wrap .i64 (1+1)=2 by rfl]
  refine Wp.step ?_
  simp only [eU,aL]
  refine Wp.ite (fun hx=>by omega) (fun _=> ?_)
  refine Wp.opt (bI (by simp;omega)) ?_
  refine Wp.opt (bI (by simp;omega)) ?_
  refine Wp.opt (bI (by simp;omega)) ?_
  exact Wp.ret (by rfl)
theorem G9 (w:aC) (hb:w.Given.length≤1048576∧w.Taken.length≤1048576) (v:c6):Wp (fun k=>uN k w v) (· =doM w v):=by
  unfold uN doM
  refine Wp.bind (kJ w hb) (fun _ e=> ?_);subst e
  refine Wp.not (fun h=> ?_) (fun h=> ?_)
  ·exact Wp.ret (by rw [if_neg (of_decide_eq_false h)];rfl)
  ·have hv:=of_decide_eq_true h
   rw [if_pos hv]
   refine Wp.bind (sC w hv) (fun _ e=> ?_);have e'':=e.symm;subst e''
   refine Wp.bind (YX w hv v) (fun _ e=> ?_);subst e
   refine Wp.bind (sC _ (dq_ hv v)) (fun _ e=> ?_);subst e
   exact Wp.ret rfl
theorem nC {R:Type} (x:Option R):Km.both x x=x:=by unfold Km.both;rw [if_pos rfl]
theorem U8 {e:aN} {t:ByteArray} (hc:(qI e t).Code=0):(qI e t).End.Life=e.Life∧(qI e t).End.Peer=e.Peer:=by
  unfold qI at hc⊢
  split
  ·rename_i h1;rw [if_pos h1] at hc
   split
   ·rename_i h2;rw [if_pos h2] at hc
    split
    ·rename_i h3;rw [if_pos h3] at hc;cases hc
    ·rename_i h3;rw [if_neg h3] at hc
     split
     ·exact ⟨rfl,rfl⟩
     ·rename_i h4;rw [if_neg h4] at hc;exact absurd hc h4
   ·rename_i h2;rw [if_neg h2] at hc;cases hc
  ·rename_i h1;rw [if_neg h1] at hc;cases hc
section
variable (K Fo t1 t2 Tx:ByteArray) (W z Kd A B C:Int) (Es:List aN) (Fl:List aD) (Gi Ta:List aA) (E2:List aN) (F2:List aD) (G2 T2:List aA)
theorem aE_ (h:aQ ⟨K,W,Es,Fl,Fo,Gi,Ta⟩) (hk:Kd=2∨Kd=4):Wp (fun k=>rB k (decide (0≤A∧A<(Fl.length:Int))) Kd A B C Tx t1 z t2 K W Fo E2 F2 G2 T2 Es Fl Gi Ta) (· =doW ⟨K,W,Es,Fl,Fo,Gi,Ta⟩ ⟨Kd,A,B,C,Tx⟩):=by
  have h3:=h.2.2.1
  dsimp only at h3
  refine Wp.step ?_
  simp only [rB]
  refine Wp.dec (fun hx=> ?_) (fun hx=> ?_)
  ·have hg:Fl[A.toNat]? =some (Fl[A.toNat]'(by omega)):=List.getElem?_eq_getElem (by omega)
   generalize Fl[A.toNat]'(by omega)=p at hg
   have hv:ZP p:=h.2.2.2.2.2.1 p (List.mem_of_getElem? hg)
   have hix:idx Fl A=some p:=by have:=j8 Fl A.toNat;rw [Int.toNat_of_nonneg hx.1] at this;rw [this,hg]
   simp only [hix,hg,Option.bind_some,if_true]
   refine Wp.opt (dF ⟨by omega,by omega,by omega⟩) ?_
   rw [bR (n:=A+1) (by omega) (by omega)]
   refine Wp.opt (dF ⟨by omega,by omega,by omega⟩) ?_
   dsimp only
   rw [show Int.toNat 0=0 from rfl,IL,show Int.toNat (A+1)=A.toNat+1 by omega,Int.toNat_natCast,wU]
   refine Wp.opt (bI (by simp;omega)) ?_
   rw [W2 Fl A.toNat (by omega),UQ (p:=p) (by dsimp only;omega) hx.1 hg]
   unfold xW
   dsimp only
   simp only [lW]
   refine Wp.ite (fun e=> ?_) (fun e=> ?_)
   ·rw [if_pos e]
    refine Wp.bind (BJ ⟨K,W,Es,Fl.eraseIdx A.toNat,Fo,Gi,Ta⟩ (uD h (by have:=List.length_eraseIdx_le Fl A.toNat;omega) (VD h.2.2.2.2.2.1 _)) p hv.1 (by have:=hv.2.2;omega)) (fun r e'=> ?_)
    exact (HY ..).mono fun x hr=>by rw [hr,e'];rfl
   ·rw [if_neg e,if_neg (by omega),if_pos (by omega)]
    exact (HY ..).mono fun x hr=>by rw [hr];rfl
  ·exact (HY ..).mono fun x hr=>by rw [hr,AF (by dsimp only;omega) hx]
theorem eg_ (h:aQ ⟨K,W,Es,Fl,Fo,Gi,Ta⟩) (hk:Kd≠1∧Kd≠2∧Kd≠4):Wp (fun k=>tZ k (decide (1≤A∧A≤2)) (decide (0≤A∧A<(Fl.length:Int))) Kd Kd A B C Tx t1 z t2 K W Fo E2 F2 G2 T2 Es Fl Gi Ta) (· =doW ⟨K,W,Es,Fl,Fo,Gi,Ta⟩ ⟨Kd,A,B,C,Tx⟩):=by
  have h3:=h.2.2.1
  have h4:=h.2.2.2.1
  have h5:=h.2.2.2.2.1
  dsimp only at h3 h4 h5
  have none_ok:∀(Q:Prop),(1≤Kd→Kd≤11→(8≤Kd∧¬(1≤A∧A≤2))∨(Kd≤7∧¬(0≤A∧A<(Fl.length:Int))))→Wp (fun k=>aR k t1 z t2 K W Fo E2 F2 G2 T2 Es Fl Gi Ta) (· =doW ⟨K,W,Es,Fl,Fo,Gi,Ta⟩ ⟨Kd,A,B,C,Tx⟩):=fun _ hq=>by
    refine (HY ..).mono fun x hr=> ?_
    rw [hr]
    by_cases h1:1≤Kd∧Kd≤11
    ·rcases hq h1.1 h1.2 with ⟨h8,hn⟩ | ⟨h7,hn⟩
     ·rw [GM (.inr ⟨h8,hn⟩)]
     ·rw [AF (by dsimp only;omega) hn]
    ·rw [GM (.inl h1)]
  have par:∀p,Fl[A.toNat]? =some p→idx Fl A=some p→2≤Kd∧Kd≤7→0≤A→∀y,xW ⟨K,W,Es,Fl,Fo,Gi,Ta⟩ ⟨Kd,A,B,C,Tx⟩ p=y→∀Fl',nP ⟨K,W,Es,Fl,Fo,Gi,Ta⟩ Fl'=y→Wp (fun k=>aR k t1 z t2 K W Fo E2 F2 G2 T2 Es Fl' Gi Ta) (· =doW ⟨K,W,Es,Fl,Fo,Gi,Ta⟩ ⟨Kd,A,B,C,Tx⟩):=fun p hp hi hk2 h0 y hy Fl' hF=>by
    refine (HY ..).mono fun x hr=> ?_
    rw [hr,UQ (p:=p) hk2 h0 hp,hy,←hF];rfl
  have hin:0≤A∧A<(Fl.length:Int)→∃p,Fl[A.toNat]? =some p∧idx Fl A=some p∧ZP p:=fun hx=>by
    have hg:Fl[A.toNat]? =some (Fl[A.toNat]'(by omega)):=List.getElem?_eq_getElem (by omega)
    refine ⟨_,hg, ?_,h.2.2.2.2.2.1 _ (List.mem_of_getElem? hg)⟩
    have:=j8 Fl A.toNat
    rw [Int.toNat_of_nonneg hx.1] at this;rw [this,hg]
  refine Wp.step ?_
  simp only [tZ,lW]
  refine Wp.ite (fun e=> ?_) (fun e3=> ?_)
  ·refine Wp.dec (fun hx=> ?_) (fun hx=>none_ok True (by omega))
   obtain ⟨p,hp,hi,hv⟩:=hin hx
   refine Wp.dec (fun hl=> ?_) (fun hl=> ?_)
   ·simp only [hi,hp,Option.bind_some]
    refine Wp.opt (bI (by simp;omega)) ?_
    exact par p hp hi (by omega) hx.1 _ (by unfold xW;dsimp only;rw [if_neg (by omega),if_pos e,if_pos (by omega)]) _ rfl
   ·exact par p hp hi (by omega) hx.1 _ (by unfold xW;dsimp only;rw [if_neg (by omega),if_pos e,if_neg (by omega)];rfl) _ rfl
  refine Wp.ite (fun e=> ?_) (fun e5=> ?_)
  ·refine Wp.dec (fun hx=> ?_) (fun hx=>none_ok True (by omega))
   obtain ⟨p,hp,hi,hv⟩:=hin hx
   have u:¬((0≤B∧B<(p.Bytes.size:Int))∧0≤C)→xW ⟨K,W,Es,Fl,Fo,Gi,Ta⟩ ⟨Kd,A,B,C,Tx⟩ p=⟨K,W,Es,Fl,Fo,Gi,Ta⟩:=fun hn=>by
     unfold xW;dsimp only;rw [if_neg (by omega),if_neg (by omega),if_neg (by omega),if_pos e,if_neg hn]
   refine Wp.dec (fun h1=> ?_) (fun h1=>par p hp hi (by omega) hx.1 _ (u (by omega)) _ rfl)
   refine Wp.dec (fun h2=> ?_) (fun h2=>par p hp hi (by omega) hx.1 _ (u (by omega)) _ rfl)
   simp only [hi,hp,Option.bind_some]
   refine Wp.dec (fun h3=> ?_) (fun h3=>par p hp hi (by omega) hx.1 _ (u (by omega)) _ rfl)
   obtain ⟨b1,b2⟩:=WT (s:=p.Bytes) (b:=B) ⟨h2,h3⟩
   simp only [b1,b2,Option.bind_some]
   refine Wp.opt (nW h1 (by omega)) ?_
   exact par p hp hi (by omega) hx.1 _ (by unfold xW;dsimp only;rw [if_neg (by omega),if_neg (by omega),if_neg (by omega),if_pos e,if_pos ⟨⟨h2,h3⟩,h1⟩];rfl) _ rfl
  refine Wp.ite (fun e=> ?_) (fun e6=> ?_)
  ·refine Wp.dec (fun hx=> ?_) (fun hx=>none_ok True (by omega))
   obtain ⟨p,hp,hi,hv⟩:=hin hx
   have u:¬(0≤B∧B≤(p.Bytes.size:Int))→xW ⟨K,W,Es,Fl,Fo,Gi,Ta⟩ ⟨Kd,A,B,C,Tx⟩ p=⟨K,W,Es,Fl,Fo,Gi,Ta⟩:=fun hn=>by
     unfold xW;dsimp only;rw [if_neg (by omega),if_neg (by omega),if_neg (by omega),if_neg (by omega),if_pos e,if_neg hn]
   refine Wp.dec (fun h1=> ?_) (fun h1=>par p hp hi (by omega) hx.1 _ (u (by omega)) _ rfl)
   simp only [hi,hp,Option.bind_some]
   refine Wp.dec (fun h2=> ?_) (fun h2=>par p hp hi (by omega) hx.1 _ (u (by omega)) _ rfl)
   refine Wp.opt (dF ⟨by omega,h1,h2⟩) ?_
   exact par p hp hi (by omega) hx.1 _ (by unfold xW;dsimp only;rw [if_neg (by omega),if_neg (by omega),if_neg (by omega),if_neg (by omega),if_pos e,if_pos ⟨h1,h2⟩];rfl) _ rfl
  refine Wp.ite (fun e=> ?_) (fun e7=> ?_)
  ·refine Wp.dec (fun hx=> ?_) (fun hx=>none_ok True (by omega))
   obtain ⟨p,hp,hi,hv⟩:=hin hx
   simp only [hi,hp,Option.bind_some]
   have:=hv.1
   rw [bR (n:=3-p.To) (by omega) (by omega)]
   exact par p hp hi (by omega) hx.1 _ (by unfold xW;dsimp only;rw [if_neg (by omega),if_neg (by omega),if_neg (by omega),if_neg (by omega),if_neg (by omega)]) _ rfl
  have en:(8≤Kd∧Kd≤11)→(1≤A∧A≤2)→∀y:aC,BV ⟨K,W,Es,Fl,Fo,Gi,Ta⟩ ⟨Kd,A,B,C,Tx⟩=y→Wp (fun k=>aR k t1 z t2 y.Key y.Width y.Forged E2 F2 G2 T2 y.Ends y.Flight y.Given y.Taken) (· =doW ⟨K,W,Es,Fl,Fo,Gi,Ta⟩ ⟨Kd,A,B,C,Tx⟩):=fun hk2 hn y hy=>by
    refine (HY ..).mono fun x hr=> ?_
    rw [hr,aL_ hk2 hn,hy]
  refine Wp.ite (fun e=> ?_) (fun e8=> ?_)
  ·refine Wp.dec (fun hx=> ?_) (fun hx=>none_ok True (by omega))
   obtain ⟨a1,a2,a3⟩:=uF h5 hx
   simp only [a1,a2,a3,Option.bind_some]
   refine Wp.bind (U2 _) (fun r e'=> ?_)
   exact en (by omega) hx ⟨K,W,FE A r Es,Fl,Fo,Gi,Ta⟩ (by unfold BV;dsimp only;rw [if_pos e,e'];rfl)
  refine Wp.ite (fun e=> ?_) (fun e9=> ?_)
  ·refine Wp.dec (fun hx=> ?_) (fun hx=>none_ok True (by omega))
   obtain ⟨a1,a2,a3⟩:=uF h5 hx
   simp only [a1,a2,a3,Option.bind_some]
   refine Wp.bind (U7 _) (fun r e'=> ?_)
   exact en (by omega) hx ⟨K,W,FE A r Es,Fl,Fo,Gi,Ta⟩ (by unfold BV;dsimp only;rw [if_neg e8,if_pos e,e'];rfl)
  refine Wp.ite (fun e=> ?_) (fun e10=> ?_)
  ·refine Wp.dec (fun hx=> ?_) (fun hx=>none_ok True (by omega))
   obtain ⟨a1,a2,a3⟩:=uF h5 hx
   have pu:∀y,P2 ⟨K,W,Es,Fl,Fo,Gi,Ta⟩ A Tx=y→BV ⟨K,W,Es,Fl,Fo,Gi,Ta⟩ ⟨Kd,A,B,C,Tx⟩=y:=fun y hy=>by
     unfold BV;dsimp only;rw [if_neg e8,if_neg e9,if_pos e];exact hy
   unfold j4
   simp only [Option.bind_some,nC,W7 h4]
   refine Wp.not (fun hc=> ?_) (fun hc=> ?_)
   ·have hc:=of_decide_eq_false hc
    simp only [a1,a2,a3,Option.bind_some]
    refine Wp.bind (ED _ _) (fun r e'=> ?_);subst e'
    refine Wp.ite (fun h0=> ?_) (fun h0=> ?_)
    ·refine Wp.opt (bI (by simp;omega)) ?_
     obtain ⟨l1,l2⟩:=U8 h0
     rw [l1,l2]
     exact en (by omega) hx ⟨K,W,FE A (qI (eJ A Es) Tx).End Es,Fl,Fo,Gi++[⟨A,(eJ A Es).Life,(eJ A Es).Peer,Tx⟩],Ta⟩ (pu _ (by unfold P2;dsimp only;rw [if_pos ⟨by omega,h0⟩]))
    ·exact en (by omega) hx ⟨K,W,Es,Fl,Fo,Gi,Ta⟩ (pu _ (by unfold P2;dsimp only;rw [if_neg (fun g=>h0 g.2)]))
   ·have hc:=of_decide_eq_true hc
    exact en (by omega) hx ⟨K,W,Es,Fl,Fo,Gi,Ta⟩ (pu _ (by unfold P2;dsimp only;rw [if_neg (fun g=>by omega)]))
  refine Wp.ite (fun e=> ?_) (fun e11=>none_ok True (by omega))
  refine Wp.dec (fun hx=> ?_) (fun hx=>none_ok True (by omega))
  refine Wp.bind (EP ⟨K,W,Es,Fl,Fo,Gi,Ta⟩ h A hx) (fun r e'=> ?_)
  exact en (by omega) hx r (by unfold BV;dsimp only;rw [if_neg e8,if_neg e9,if_neg e10,e'])
theorem cK_ (h:aQ ⟨K,W,Es,Fl,Fo,Gi,Ta⟩):Wp (fun k=>tF k (decide (1≤A∧A≤2)) (decide (0≤A∧A<(Fl.length:Int))) Kd A B C Tx t1 z t2 K W Fo E2 F2 G2 T2 Es Fl Gi Ta) (· =doW ⟨K,W,Es,Fl,Fo,Gi,Ta⟩ ⟨Kd,A,B,C,Tx⟩):=by
  refine Wp.step ?_
  simp only [tF,lW]
  refine Wp.ite (fun e=> ?_) (fun e1=> ?_)
  ·refine Wp.bind (EV ⟨K,W,Es,Fl,Fo,Gi,Ta⟩ h) (fun r e'=> ?_)
   exact (HY ..).mono fun x hr=>by rw [hr,e'];unfold doW;rw [if_pos e]
  refine Wp.ite (fun e=>aE_ _ _ _ _ _ _ _ _ _ _ _ _ _ _ _ _ _ _ _ h (.inl e)) (fun e2=> ?_)
  refine Wp.ite (fun e=>aE_ _ _ _ _ _ _ _ _ _ _ _ _ _ _ _ _ _ _ _ h (.inr e)) (fun e4=> ?_)
  exact eg_ _ _ _ _ _ _ _ _ _ _ _ _ _ _ _ _ _ _ _ h ⟨e1,e2,e4⟩
theorem c8_ (h:aQ ⟨K,W,Es,Fl,Fo,Gi,Ta⟩):Wp (fun k=>tE k (decide (1≤A∧A≤2)) Kd A B C Tx t1 z t2 K W Fo E2 F2 G2 T2 Es Fl Gi Ta) (· =doW ⟨K,W,Es,Fl,Fo,Gi,Ta⟩ ⟨Kd,A,B,C,Tx⟩):=by
  refine Wp.step ?_
  simp only [tE]
  refine Wp.dec (fun hx=> ?_) (fun hx=> ?_)
  ·have:=cK_ K Fo t1 t2 Tx W z Kd A B C Es Fl Gi Ta E2 F2 G2 T2 h
   rw [show decide (0≤A∧A<(Fl.length:Int))=decide (A<(Fl.length:Int)) from decide_eq_decide.mpr ⟨fun g=>g.2,fun g=>⟨hx,g⟩⟩] at this
   exact this
  ·have:=cK_ K Fo t1 t2 Tx W z Kd A B C Es Fl Gi Ta E2 F2 G2 T2 h
   rw [show decide (0≤A∧A<(Fl.length:Int))=false from decide_eq_false (fun g=>hx g.1)] at this
   exact this
end
theorem I9 (w:aC) (hb:w.Given.length≤1048576∧w.Taken.length≤1048576) (v:c6):Wp (fun k=>sW k w v) (· =doM w v):=by
  unfold sW doM
  refine Wp.bind (kR w hb) (fun _ e=> ?_);subst e
  refine Wp.not (fun h=> ?_) (fun h=> ?_)
  ·exact Wp.ret (by rw [if_neg (of_decide_eq_false h)];rfl)
  ·have hv:=of_decide_eq_true h
   rw [if_pos hv]
   refine Wp.bind (ES w hv) (fun _ e=> ?_);have e'':=e.symm;subst e''
   simp only [lW]
   refine Wp.ite (fun e=> ?_) (fun e=> ?_)
   ·have:=c8_ w.Key w.Forged noB noB v.Text w.Width 0 v.Kind v.A v.B v.C w.Ends w.Flight w.Given w.Taken [] [] [] [] hv
    rw [show decide (1≤v.A∧v.A≤2)=true from decide_eq_true (by omega)] at this
    exact this
   ·have:=c8_ w.Key w.Forged noB noB v.Text w.Width 0 v.Kind v.A v.B v.C w.Ends w.Flight w.Given w.Taken [] [] [] [] hv
    rw [show decide (1≤v.A∧v.A≤2)=(v.A==2) by rw [Bool.eq_iff_iff];simp;omega] at this
    exact this
theorem eq_pair_iff {x y:DPair}:cD x y=true↔x=y:=⟨DZ,fun h=>by subst h;simp [cD]⟩
instance:DecidableEq DPair:=fun x y=>decidable_of_iff _ eq_pair_iff
def mget {β:Type} (key:DPair):List (DPair×β)→Option β
  | []=>none
  | (a,b)::l=>if a=key then some b else mget key l
theorem qA {β:Type} {key:DPair}:∀{l:List (DPair×β)} {i:Nat},cA (cD key) l i=none→mget key l=none
  | [],_,_=>rfl
  | (a,b)::l,i,h=>by
    simp only [cA] at h
    split at h
    ·cases h
    ·rename_i hq
     simp only [mget]
     rw [if_neg (fun e=>by subst e;rw [eq_pair_iff.mpr rfl] at hq;cases hq)]
     exact qA h
theorem pZ {β:Type} {key:DPair}:∀{l:List (DPair×β)} {i j:Nat} {b:β},cA (cD key) l i=some (j,b)→∃d,j=i+d∧l[d]? =some (key,b)∧mget key l=some b∧∀v key',mget key' (l.set d (key,v))=if key'=key then some v else mget key' l
  | [],_,_,_,h=>by cases h
  | (a,c)::l,i,j,b,h=>by
    simp only [cA] at h
    split at h
    ·rename_i hq
     have:=DZ hq;subst this
     cases h
     refine ⟨0,rfl,rfl,by simp only [mget,if_true],fun v key'=> ?_⟩
     simp only [List.set_cons_zero,mget]
     by_cases e:key=key'
     ·subst e;simp
     ·rw [if_neg e,if_neg e,if_neg (fun g=>e g.symm)]
    ·rename_i hq
     have hne:a≠key:=fun e=>by subst e;rw [eq_pair_iff.mpr rfl] at hq;cases hq
     obtain ⟨d,e1,e2,e3,e4⟩:=pZ h
     refine ⟨d+1,by omega,e2,by simp only [mget];rw [if_neg hne,e3],fun v key'=> ?_⟩
     simp only [List.set_cons_succ,mget,e4]
     by_cases e:a=key'
     ·subst e;rw [if_pos rfl,if_neg hne,if_pos rfl]
     ·rw [if_neg e,if_neg e]
theorem zI {β:Type} {key key':DPair} {v:β}:∀(l:List (DPair×β)),mget key l=none→mget key' (l++[(key,v)])=if key'=key then some v else mget key' l
  | [],_=>by
    simp only [List.nil_append,mget]
    by_cases e:key=key'
    ·subst e;simp
    ·rw [if_neg e,if_neg (fun g=>e g.symm)]
  | (a,b)::l,h=>by
    simp only [mget] at h
    split at h
    ·cases h
    ·rename_i hne
     simp only [List.cons_append,mget,zI l h]
     by_cases e:a=key'
     ·subst e;rw [if_pos rfl,if_neg hne,if_pos rfl]
     ·rw [if_neg e,if_neg e]
theorem OG {α:Type} (l:List α) (x y:α):(l++[x]).set l.length y=l++[y]:=by simp
theorem W1 {β:Type} {l:List (DPair×β)} {d:Nat} {key:DPair} {b:β} (h:l[d]? =some (key,b)):(l.modify d fun e=>(e.1,b))=l:=by
  obtain ⟨h1,h2⟩:=List.getElem?_eq_some_iff.mp h
  apply List.ext_getElem?
  intro i
  rw [List.getElem?_modify]
  by_cases e:d=i
  ·subst e;rw [h];simp
  ·cases l[i]? <;>simp [e]
def kf (r:aA):DPair:=⟨r.From,r.A,r.B⟩
def fZ (l:List aA) (key:DPair):List ByteArray:=(l.filter (fun r=>decide (kf r=key))).map (·.Text)
theorem qZ (l:List aA) (r:aA) (key:DPair):fZ (l++[r]) key=if key=kf r then fZ l key++[r.Text] else fZ l key:=by
  unfold fZ
  rw [List.filter_append,List.map_append]
  by_cases e:kf r=key
  ·subst e;simp
  ·rw [if_neg (fun g=>e g.symm)];simp [e]
theorem zH (l:List aA) (r:aA) (key:DPair):fZ (r::l) key=if kf r=key then r.Text::fZ l key else fZ l key:=by
  unfold fZ
  by_cases e:kf r=key
  ·simp [e]
  ·simp [e]
theorem tN (l:List aA) (key:DPair):(fZ l key).length≤l.length:=by
  unfold fZ;rw [List.length_map];exact List.length_filter_le _ _
def vM (G:List aA):List aA→List aA→Bool
  | _,[]=>true
  | pre,r::t=>decide ((fZ G (kf r))[(fZ pre (kf r)).length]? =some r.Text)&&vM G (pre++[r]) t
def P3 (w:aC):Bool:=decide (aQ w)&&vM w.Given [] w.Taken
def ZK (th:Bool) (n:Int) (t:List aA) (x:aA):Bool:=th || decide (0≤n∧(fZ t (kf x))[n.toNat]? =some x.Text)
theorem gF_ (K Fo:ByteArray) (W i:Int) (Es:List aN) (Fl:List aD) (Ta:List aA) (x:aA) (Q:Bool→Prop) (G:List aA) (hG:G.length≤1000):∀(t pre:List aA) (n:Int) (th:Bool),pre++t=G→(-(pre.length:Int)≤n∧n≤1000)→
    (ZK th n t x=true→Wp (fun k=>iJ k (IntKind.wrap .i64 (i+1)) K W Es Fl Fo G Ta) Q)→(ZK th n t x=false→Q false)→
    Wp (fun k=>gD k i n th (pre.length:Int) K W Es Fl Fo G Ta x.From x.A x.B x.Text) Q
  | [],pre,n,th,he,hn,go,no=>by
    have he':pre=G:=by simpa using he
    refine Wp.step ?_
    simp only [gD]
    refine Wp.dec (fun h=>by rw [←he'] at h;omega) (fun _=> ?_)
    have e:ZK th n [] x=th:=by simp [ZK,fZ]
    refine Wp.not (fun h=> ?_) (fun h=>go (by rw [e,h]))
    exact Wp.ret (no (by rw [e,h]))
  | y::t,pre,n,th,he,hn,go,no=>by
    have hl:pre.length+(y::t).length≤1000:=by rw [←List.length_append,he];exact hG
    simp only [List.length_cons] at hl
    refine Wp.step ?_
    simp only [gD]
    refine Wp.dec (fun _=> ?_) (fun h=>absurd (by rw [←he];simp;omega) h)
    rw [show idx G (pre.length:Int)=some y by rw [←he];exact bJ]
    simp only [Option.bind_some,lW]
    have nx:∀(m:Int) (b:Bool),(n-1≤m∧m≤n)→ZK b m t x=ZK th n (y::t) x→Wp (fun k=>dB k i m b (pre.length:Int) K W Es Fl Fo G Ta x.From x.A x.B x.Text) Q:=fun m b hm hs=>by
      refine Wp.step ?_
      simp only [dB]
      rw [bR (n:=(pre.length:Int)+1) (by omega) (by omega)]
      have:=gF_ K Fo W i Es Fl Ta x Q G hG t (pre++[y]) m b (by rw [←he];simp) (by simp;omega) (fun h=>go (hs▸h)) (fun h=>no (hs▸h))
      rw [show ((pre++[y]).length:Int)=(pre.length:Int)+1 by simp] at this
      exact this
    have other:kf y≠kf x→Wp (fun k=>dB k i n th (pre.length:Int) K W Es Fl Fo G Ta x.From x.A x.B x.Text) Q:=fun hne=>by
      refine nx n th (by omega) ?_
      simp only [ZK,zH,if_neg hne]
    refine Wp.ite (fun e1=> ?_) (fun e1=>other (fun g=>e1 (congrArg DPair.f g)))
    refine Wp.ite (fun e2=> ?_) (fun e2=>other (fun g=>e2 (congrArg DPair.a g)))
    refine Wp.ite (fun e3=> ?_) (fun e3=>other (fun g=>e3 (congrArg DPair.b g)))
    have hk:kf y=kf x:=by simp [kf,e1,e2,e3]
    rw [bR (n:=n-1) (by omega) (by omega)]
    refine Wp.bif (fun h=> ?_) (fun h=> ?_)
    ·exact nx _ _ (by omega) (by simp [ZK,h])
    ·refine Wp.ite (fun h0=> ?_) (fun h0=> ?_)
     ·rw [cV_]
      refine nx _ _ (by omega) ?_
      subst h0
      simp only [ZK,h,zH,if_pos hk]
      simp
     ·refine nx _ _ (by omega) ?_
      simp only [ZK,h,zH,if_pos hk,Bool.false_or]
      apply decide_eq_decide.mpr
      constructor
      ·rintro ⟨h1,h2⟩
       refine ⟨by omega, ?_⟩
       rw [show n.toNat=(n-1).toNat+1 by omega,List.getElem?_cons_succ];exact h2
      ·rintro ⟨h1,h2⟩
       refine ⟨by omega, ?_⟩
       rw [show n.toNat=(n-1).toNat+1 by omega,List.getElem?_cons_succ] at h2;exact h2
theorem sr9 (K Fo:ByteArray) (W i:Int) (Es:List aN) (Fl:List aD) (G:List aA) (x:aA) (Q:Bool→Prop) (Ta:List aA) (hT:Ta.length≤1000):∀(p2 p1 rest:List aA),p1++p2++rest=Ta→i=((p1++p2).length:Int)→
    Wp (fun k=>gD k i ((fZ (p1++p2) (kf x)).length:Int) false 0 K W Es Fl Fo G Ta x.From x.A x.B x.Text) Q→
    Wp (fun k=>kG k i ((fZ p1 (kf x)).length:Int) (p1.length:Int) K W Es Fl Fo G Ta x.From x.A x.B x.Text) Q
  | [],p1,rest,he,hi,go=>by
    simp only [List.append_nil] at hi go
    refine Wp.step ?_
    simp only [kG]
    refine Wp.dec (fun h=>by omega) (fun _=>go)
  | y::p2,p1,rest,he,hi,go=>by
    have hl:p1.length+(p2.length+1)+rest.length≤1000:=by
      have:(p1++(y::p2)++rest).length≤1000:=by rw [he];exact hT
      simp at this;omega
    refine Wp.step ?_
    simp only [kG]
    refine Wp.dec (fun _=> ?_) (fun h=>absurd (by rw [hi];simp;omega) h)
    rw [show idx Ta (p1.length:Int)=some y by rw [←he,List.append_assoc];exact bJ]
    simp only [Option.bind_some,lW]
    have hlen:=tN p1 (kf x)
    have nx:Wp (fun k=>eP k i ((fZ (p1++[y]) (kf x)).length:Int) (p1.length:Int) K W Es Fl Fo G Ta x.From x.A x.B x.Text) Q:=by
      refine Wp.step ?_
      simp only [eP]
      rw [bR (n:=(p1.length:Int)+1) (by omega) (by omega)]
      have:=sr9 K Fo W i Es Fl G x Q Ta hT p2 (p1++[y]) rest (by rw [←he];simp) (by rw [hi];simp) (by simpa using go)
      rw [show ((p1++[y]).length:Int)=(p1.length:Int)+1 by simp] at this
      exact this
    have other:kf y≠kf x→Wp (fun k=>eP k i ((fZ p1 (kf x)).length:Int) (p1.length:Int) K W Es Fl Fo G Ta x.From x.A x.B x.Text) Q:=fun hne=>by
      rw [qZ,if_neg (fun g=>hne g.symm)] at nx;exact nx
    refine Wp.ite (fun e1=> ?_) (fun e1=>other (fun g=>e1 (congrArg DPair.f g)))
    refine Wp.ite (fun e2=> ?_) (fun e2=>other (fun g=>e2 (congrArg DPair.a g)))
    refine Wp.ite (fun e3=> ?_) (fun e3=>other (fun g=>e3 (congrArg DPair.b g)))
    have hk:kf x=kf y:=by simp [kf,e1,e2,e3]
    rw [bR (n:=((fZ p1 (kf x)).length:Int)+1) (by omega) (by omega)]
    rw [qZ,if_pos hk,List.length_append] at nx
    exact nx
theorem sr4 (K Fo:ByteArray) (W:Int) (Es:List aN) (Fl:List aD) (G Ta:List aA) (hG:G.length≤1000) (hT:Ta.length≤1000):∀(t pre:List aA),pre++t=Ta→Wp (fun k=>iJ k (pre.length:Int) K W Es Fl Fo G Ta) (· =vM G pre t)
  | [],pre,he=>by
    have he':pre=Ta:=by simpa using he
    refine Wp.step ?_
    simp only [iJ]
    refine Wp.dec (fun h=>by rw [←he'] at h;omega) (fun _=>Wp.ret rfl)
  | x::t,pre,he=>by
    have hl:pre.length+(t.length+1)≤1000:=by
      have:(pre++(x::t)).length≤1000:=by rw [he];exact hT
      simpa using this
    refine Wp.step ?_
    simp only [iJ]
    refine Wp.dec (fun _=> ?_) (fun h=>absurd (by rw [←he];simp;omega) h)
    rw [show idx Ta (pre.length:Int)=some x by rw [←he];exact bJ]
    simp only [Option.bind_some]
    have hlen:=tN pre (kf x)
    refine sr9 K Fo W (pre.length:Int) Es Fl G x _ Ta hT pre [] (x::t) (by simpa using he) (by simp) ?_
    simp only [List.nil_append]
    refine gF_ K Fo W (pre.length:Int) Es Fl Ta x _ G hG G [] _ false rfl (by simp;omega) (fun hs=> ?_) (fun hs=> ?_)
    ·rw [bR (n:=(pre.length:Int)+1) (by omega) (by omega)]
     have:=sr4 K Fo W Es Fl G Ta hG hT t (pre++[x]) (by rw [←he];simp)
     rw [show ((pre++[x]).length:Int)=(pre.length:Int)+1 by simp] at this
     refine this.mono fun r hr=> ?_
     rw [hr]
     simp only [ZK,Bool.false_or,decide_eq_true_eq,Int.toNat_natCast] at hs
     simp only [vM,decide_eq_true hs.2,Bool.true_and]
    ·simp only [ZK,Bool.false_or,decide_eq_false_iff_not,Int.toNat_natCast] at hs
     simp only [vM]
     rw [decide_eq_false (fun g=>hs ⟨by omega,g⟩)];rfl
theorem PU (w:aC) (hb:w.Given.length≤1048576∧w.Taken.length≤1048576):Wp (fun k=>xN k w) (· =P3 w):=by
  unfold xN P3
  refine Wp.bind (kJ w hb) (fun _ e=> ?_);subst e
  refine Wp.not (fun h=>Wp.ret (by rw [h];rfl)) (fun h=> ?_)
  have hv:=of_decide_eq_true h
  have h4:=hv.2.2.2.1
  rw [h]
  exact sr4 w.Key w.Forged w.Width w.Ends w.Flight w.Given w.Taken (by omega) (by omega) w.Taken [] rfl
theorem Wp.optK {α R:Type} {o:Option α} {A:Nat→Option R} {B:Nat→α→Option R} {Q:R→Prop} (h0:o=none→Wp A Q) (h1:∀p,o=some p→Wp (fun k=>B k p) Q):Wp (fun k=>Km.optK o (A k) (B k)) Q:=by
  cases o with
  | none=>exact h0 rfl
  | some p=>exact h1 p rfl
theorem D5 {β:Type} {key:DPair} {v:β}:∀{l:List (DPair×β)} {i:Nat},cA (cD key) l i=none→cA (cD key) (l++[(key,v)]) i=some (i+l.length,v)
  | [],i,_=>by simp only [List.nil_append,cA,eq_pair_iff.mpr rfl];rfl
  | (a,b)::l,i,h=>by
    simp only [cA] at h
    split at h
    ·cases h
    ·rename_i hq
     simp only [List.cons_append,cA,hq]
     rw [D5 h];simp;omega
def fx_ (m:List (DPair×List ByteArray)) (pre:List aA):Prop:=∀key,(mget key m).getD []=fZ pre key
def AtI (m:List (DPair×Int)) (pre:List aA):Prop:=∀key,(mget key m).getD 0=((fZ pre key).length:Int)
theorem ir5 (K Fo:ByteArray) (W:Int) (Es:List aN) (Fl:List aD) (G Ta:List aA) (hG:G.length≤1000) (Q:Bool→Prop):∀(t pre:List aA) (m:List (DPair×List ByteArray)),pre++t=G→fx_ m pre→
    (∀m,fx_ m G→Wp (fun k=>bO k Ta (Ta.length:Int) 0 m []) Q)→
    Wp (fun k=>fY k G (G.length:Int) (pre.length:Int) K W Es Fl Fo G Ta m) Q
  | [],pre,m,he,hi,go=>by
    have he':pre=G:=by simpa using he
    refine Wp.step ?_
    simp only [fY]
    refine Wp.dec (fun h=>by rw [he'] at h;omega) (fun _=> ?_)
    exact go m (he'▸hi)
  | x::t,pre,m,he,hi,go=>by
    have hl:pre.length+(t.length+1)≤1000:=by
      have:(pre++(x::t)).length≤1000:=by rw [he];exact hG
      simpa using this
    refine Wp.step ?_
    simp only [fY]
    refine Wp.dec (fun _=> ?_) (fun h=>absurd (by rw [←he];simp;omega) h)
    rw [show idx G (pre.length:Int)=some x by rw [←he];exact bJ]
    simp only [Option.bind_some]
    have hk:(⟨x.From,x.A,x.B⟩:DPair)=kf x:=rfl
    rw [hk,bR (n:=(pre.length:Int)+1) (by omega) (by omega)]
    have hlen:=tN pre (kf x)
    have nx:∀m',fx_ m' (pre++[x])→Wp (fun k=>fY k G (G.length:Int) ((pre.length:Int)+1) K W Es Fl Fo G Ta m') Q:=fun m' h'=>by
      have:=ir5 K Fo W Es Fl G Ta hG Q t (pre++[x]) m' (by rw [←he];simp) h' go
      rw [show ((pre++[x]).length:Int)=(pre.length:Int)+1 by simp] at this
      exact this
    refine Wp.optK (fun h0=> ?_) (fun p h1=> ?_)
    ·have hn:=qA h0
     refine Wp.opt (bI (by simp)) ?_
     refine Wp.opt (x:=(kf x,[])) (by rw [j8];simp) ?_
     dsimp only
     rw [Int.toNat_natCast,OG]
     refine nx _ (fun key=> ?_)
     rw [zI m hn,qZ]
     by_cases e:key=kf x
     ·subst e
      rw [if_pos rfl,if_pos rfl,←hi,hn];rfl
     ·rw [if_neg e,if_neg e,hi]
    ·obtain ⟨j,b⟩:=p
     obtain ⟨d,e1,e2,e3,e4⟩:=pZ h1
     rw [Nat.zero_add] at e1;subst e1
     have hb:=hi (kf x)
     rw [e3] at hb
     simp only [Option.getD_some] at hb
     subst hb
     refine Wp.opt (bI (by simp;omega)) ?_
     dsimp only
     rw [Int.toNat_natCast,show Nat.beq j j=true by simp,j8,e2]
     simp only [cond_true,Option.bind_some]
     refine nx _ (fun key=> ?_)
     rw [e4,qZ]
     by_cases e:key=kf x
     ·rw [if_pos e,if_pos e,e];rfl
     ·rw [if_neg e,if_neg e,hi]
theorem gK_ (Ta:List aA) (x:aA) (Q:Bool→Prop) (i c:Int) (x3:List (DPair×List ByteArray)) (x4:List (DPair×Int)) (hc:(mget (kf x) x4).getD 0=c) (hcb:0≤c∧c≤1000)
    (go:∀m,(∀key,(mget key m).getD 0=if key=kf x then c+1 else (mget key x4).getD 0)→Wp (fun k=>bO k Ta (Ta.length:Int) (IntKind.wrap .i64 (i+1)) x3 m) Q):
    Wp (fun k=>bX k Ta (Ta.length:Int) i x3 x4 x.From x.A x.B) Q:=by
  refine Wp.step ?_
  simp only [bX]
  rw [show (⟨x.From,x.A,x.B⟩:DPair)=kf x from rfl]
  cases h4:cA (cD (kf x)) x4 0 with
  | none=>
    have hn:=qA h4
    rw [hn] at hc
    simp only [Option.getD_none] at hc
    subst hc
    simp only [Km.optK,D5 h4,Nat.zero_add,j8,Int.toNat_natCast,OG]
    simp only [List.getElem?_append_right (Nat.le_refl _),Nat.sub_self,List.getElem?_cons_zero,Option.bind_some,nC]
    rw [bR (n:=0+1) (by omega) (by omega)]
    refine go _ (fun key=> ?_)
    rw [zI x4 hn]
    by_cases e:key=kf x
    ·rw [if_pos e,if_pos e];rfl
    ·rw [if_neg e,if_neg e]
  | some p=>
    obtain ⟨j,b⟩:=p
    obtain ⟨d,e1,e2,e3,e4⟩:=pZ h4
    rw [Nat.zero_add] at e1;subst e1
    rw [e3] at hc
    simp only [Option.getD_some] at hc
    subst hc
    simp only [Km.optK,j8,e2,Option.bind_some,Int.toNat_natCast,nC]
    rw [bR (n:=b+1) (by omega) (by omega)]
    refine go _ (fun key=> ?_)
    rw [e4]
    by_cases e:key=kf x
    ·rw [if_pos e,if_pos e];rfl
    ·rw [if_neg e,if_neg e]
theorem gE_ (G Ta:List aA) (hG:G.length≤1000) (hT:Ta.length≤1000) (x3:List (DPair×List ByteArray)) (h3:fx_ x3 G):∀(t pre:List aA) (x4:List (DPair×Int)),pre++t=Ta→AtI x4 pre→Wp (fun k=>bO k Ta (Ta.length:Int) (pre.length:Int) x3 x4) (· =vM G pre t)
  | [],pre,x4,he,hi=>by
    have he':pre=Ta:=by simpa using he
    refine Wp.step ?_
    simp only [bO]
    refine Wp.dec (fun h=>by rw [he'] at h;omega) (fun _=>Wp.ret rfl)
  | x::t,pre,x4,he,hi=>by
    have hl:pre.length+(t.length+1)≤1000:=by
      have:(pre++(x::t)).length≤1000:=by rw [he];exact hT
      simpa using this
    have hlen:=tN pre (kf x)
    have hglen:=tN G (kf x)
    have hc:=hi (kf x)
    have hg:=h3 (kf x)
    have nx:∀c:Int,((fZ pre (kf x)).length:Int)=c→(fZ G (kf x))[c.toNat]? =some x.Text→Wp (fun k=>bX k Ta (Ta.length:Int) (pre.length:Int) x3 x4 x.From x.A x.B) (· =vM G pre (x::t)):=fun c hcc hx=>by
      refine gK_ Ta x _ (pre.length:Int) c x3 x4 (by rw [hc,hcc]) (by omega) (fun m hm=> ?_)
      rw [bR (n:=(pre.length:Int)+1) (by omega) (by omega)]
      have:=gE_ G Ta hG hT x3 h3 t (pre++[x]) m (by rw [←he];simp) (fun key=>by
        rw [hm,qZ]
        by_cases e:key=kf x
        ·rw [if_pos e,if_pos e,e,List.length_append,←hcc];rfl
        ·rw [if_neg e,if_neg e,hi])
      rw [show ((pre++[x]).length:Int)=(pre.length:Int)+1 by simp] at this
      refine this.mono fun r hr=> ?_
      rw [hr]
      simp only [vM]
      rw [show (fZ pre (kf x)).length=c.toNat by omega,hx];simp
    have no:∀c:Int,((fZ pre (kf x)).length:Int)=c→¬(fZ G (kf x))[c.toNat]? =some x.Text→false=vM G pre (x::t):=fun c hcc hx=>by
      simp only [vM]
      rw [decide_eq_false (by rw [show (fZ pre (kf x)).length=c.toNat by omega];exact hx)];rfl
    refine Wp.step ?_
    simp only [bO]
    refine Wp.dec (fun _=> ?_) (fun h=>absurd (by rw [←he];simp;omega) h)
    rw [show idx Ta (pre.length:Int)=some x by rw [←he];exact bJ]
    simp only [Option.bind_some]
    rw [show (⟨x.From,x.A,x.B⟩:DPair)=kf x from rfl]
    have fin:∀(g:List ByteArray) (c:Int),fZ G (kf x)=g→((fZ pre (kf x)).length:Int)=c→¬(c≥(g.length:Int))→Wp (fun k=>(idx g c).bind fun _=>(g[c.toNat]?).bind fun y=>bif (!(y.toList==x.Text.toList)) then some false else bX k Ta (Ta.length:Int) (pre.length:Int) x3 x4 x.From x.A x.B) (· =vM G pre (x::t)):=fun g c hgg hcc hlt=>by
      have hx:g[c.toNat]? =some (g[c.toNat]'(by omega)):=List.getElem?_eq_getElem (by omega)
      generalize g[c.toNat]'(by omega)=y at hx
      have hx':idx g c=some y:=by have:=j8 g c.toNat;rw [Int.toNat_of_nonneg (by omega)] at this;rw [this,hx]
      refine Wp.opt hx' (Wp.opt hx ?_)
      simp only [b9,nO]
      refine Wp.ite (fun e=>nx c hcc (by rw [hgg,hx,e])) (fun e=>Wp.ret (no c hcc (by rw [hgg,hx];simpa using e)))
    cases h4:cA (cD (kf x)) x4 0 with
    | none=>
      rw [qA h4] at hc
      simp only [Option.getD_none] at hc
      cases h5:cA (cD (kf x)) x3 0 with
      | none=>
        rw [qA h5] at hg
        simp only [Option.getD_none] at hg
        simp only [Km.optK]
        refine Wp.dec (fun _=>Wp.ret (no 0 hc.symm (by rw [←hg];simp))) (fun h=>absurd (by simp) h)
      | some p=>
        obtain ⟨j,b⟩:=p
        obtain ⟨d,e1,e2,e3,e4⟩:=pZ h5
        rw [Nat.zero_add] at e1;subst e1
        rw [e3] at hg
        simp only [Option.getD_some] at hg
        simp only [Km.optK,W1 e2,h5]
        refine Wp.dec (fun h=>Wp.ret (no 0 hc.symm (by rw [←hg,List.getElem?_eq_none (by omega)];simp))) (fun h=>fin b 0 hg.symm hc.symm h)
    | some q=>
      obtain ⟨jq,c⟩:=q
      obtain ⟨dq,f1,f2,f3,f4⟩:=pZ h4
      rw [f3] at hc
      simp only [Option.getD_some] at hc
      cases h5:cA (cD (kf x)) x3 0 with
      | none=>
        rw [qA h5] at hg
        simp only [Option.getD_none] at hg
        simp only [Km.optK]
        refine Wp.dec (fun _=>Wp.ret (no c hc.symm (by rw [←hg];simp))) (fun h=>absurd (by simp;omega) h)
      | some p=>
        obtain ⟨j,b⟩:=p
        obtain ⟨d,e1,e2,e3,e4⟩:=pZ h5
        rw [Nat.zero_add] at e1;subst e1
        rw [e3] at hg
        simp only [Option.getD_some] at hg
        simp only [Km.optK,W1 e2,h5]
        refine Wp.dec (fun h=>Wp.ret (no c hc.symm (by rw [←hg,List.getElem?_eq_none (by omega)];simp))) (fun h=>fin b c hg.symm hc.symm h)
theorem PV (w:aC) (hb:w.Given.length≤1048576∧w.Taken.length≤1048576):Wp (fun k=>xT k w) (· =P3 w):=by
  unfold xT P3
  refine Wp.bind (kR w hb) (fun _ e=> ?_);subst e
  refine Wp.not (fun h=>Wp.ret (by rw [h];rfl)) (fun h=> ?_)
  have hv:=of_decide_eq_true h
  have h4:=hv.2.2.2.1
  rw [h]
  exact ir5 w.Key w.Forged w.Width w.Ends w.Flight w.Given w.Taken (by omega) _ w.Given [] [] rfl (fun key=>rfl) (fun m hm=>gE_ w.Given w.Taken (by omega) (by omega) m hm w.Taken [] [] rfl (fun key=>rfl))
theorem eq_key_iff {x y:DKey}:lH x y=true↔x=y:=⟨IV,fun h=>by subst h;simp [lH]⟩
instance:DecidableEq DKey:=fun x y=>decidable_of_iff _ eq_key_iff
def pk (p:aD):DKey:=⟨p.To,p.Bytes⟩
def tK (h:List DKey) (key:DKey):Nat:=(h.filter (fun x=>decide (x=key))).length
theorem zY (h:List DKey) (a key:DKey):tK (h++[a]) key=if key=a then tK h key+1 else tK h key:=by
  unfold tK
  rw [List.filter_append,List.length_append]
  by_cases e:a=key
  ·subst e;simp
  ·rw [if_neg (fun g=>e g.symm)];simp [e]
theorem QD (h:List DKey) (key:DKey):tK h key≤h.length:=List.length_filter_le _ _
def SD {β:Type} (key:DKey):List (DKey×β)→Option β
  | []=>none
  | (a,b)::l=>if a=key then some b else SD key l
theorem NC {β:Type} {key:DKey}:∀{l:List (DKey×β)} {i:Nat},cA (lH key) l i=none→SD key l=none
  | [],_,_=>rfl
  | (a,b)::l,i,h=>by
    simp only [cA] at h
    split at h
    ·cases h
    ·rename_i hq
     simp only [SD]
     rw [if_neg (fun e=>by subst e;rw [eq_key_iff.mpr rfl] at hq;cases hq)]
     exact NC h
theorem MZ {β:Type} {key:DKey}:∀{l:List (DKey×β)} {i j:Nat} {b:β},cA (lH key) l i=some (j,b)→∃d,j=i+d∧l[d]? =some (key,b)∧SD key l=some b∧(∀v key',SD key' (l.set d (key,v))=if key'=key then some v else SD key' l)∧∀v i,cA (lH key) (l.set d (key,v)) i=some (i+d,v)
  | [],_,_,_,h=>by cases h
  | (a,c)::l,i,j,b,h=>by
    simp only [cA] at h
    split at h
    ·rename_i hq
     have:=IV hq;subst this
     cases h
     refine ⟨0,rfl,rfl,by simp only [SD,if_true],fun v key'=> ?_,fun v i=> ?_⟩
     ·simp only [List.set_cons_zero,SD]
      by_cases e:key=key'
      ·subst e;simp
      ·rw [if_neg e,if_neg e,if_neg (fun g=>e g.symm)]
     ·simp only [List.set_cons_zero,cA,eq_key_iff.mpr rfl];rfl
    ·rename_i hq
     have hne:a≠key:=fun e=>by subst e;rw [eq_key_iff.mpr rfl] at hq;cases hq
     obtain ⟨d,e1,e2,e3,e4,e5⟩:=MZ h
     refine ⟨d+1,by omega,e2,by simp only [SD];rw [if_neg hne,e3],fun v key'=> ?_,fun v i=> ?_⟩
     ·simp only [List.set_cons_succ,SD,e4]
      by_cases e:a=key'
      ·subst e;rw [if_pos rfl,if_neg hne,if_pos rfl]
      ·rw [if_neg e,if_neg e]
     ·simp only [List.set_cons_succ,cA,hq]
      rw [e5];simp;omega
theorem IE {β:Type} {key key':DKey} {v:β}:∀(l:List (DKey×β)),SD key l=none→SD key' (l++[(key,v)])=if key'=key then some v else SD key' l
  | [],_=>by
    simp only [List.nil_append,SD]
    by_cases e:key=key'
    ·subst e;simp
    ·rw [if_neg e,if_neg (fun g=>e g.symm)]
  | (a,b)::l,h=>by
    simp only [SD] at h
    split at h
    ·cases h
    ·rename_i hne
     simp only [List.cons_append,SD,IE l h]
     by_cases e:a=key'
     ·subst e;rw [if_pos rfl,if_neg hne,if_pos rfl]
     ·rw [if_neg e,if_neg e]
theorem vN {β:Type} {key:DKey} {v:β}:∀{l:List (DKey×β)} {i:Nat},cA (lH key) l i=none→cA (lH key) (l++[(key,v)]) i=some (i+l.length,v)
  | [],i,_=>by simp only [List.nil_append,cA,eq_key_iff.mpr rfl];rfl
  | (a,b)::l,i,h=>by
    simp only [cA] at h
    split at h
    ·cases h
    ·rename_i hq
     simp only [List.cons_append,cA,hq]
     rw [vN h];simp;omega
def lZ (ev:Int):List aD→List DKey→aC→aC×List DKey
  | [],h,w=>(w,h)
  | p::t,h,w=>lZ ev t (h++[pk p]) (if ((tK h (pk p):Int)+1)%ev=0 then oO w p else w)
def lK (n:Int):Nat→aC→aC
  | 0,w=>w
  | d+1,w=>if (eJ n w.Ends).Take.Ready=[] then w else lK n d (JP w n)
def M4 (ev:Int) (s:aC×List DKey):aC×List DKey:=
  (lK 2 4 (lK 1 4 (lZ ev (sX s.1).Flight s.2 (nP (sX s.1) [])).1),(lZ ev (sX s.1).Flight s.2 (nP (sX s.1) [])).2)
def DG (ev:Int):Nat→aC×List DKey→aC×List DKey
  | 0,s=>s
  | d+1,s=>DG ev d (M4 ev s)
def RT (w:aC) (n ev:Int):aC:=if aQ w∧(1≤ev∧ev≤10) then (DG ev (min n 5000).toNat (w,[])).1 else VA
theorem SI (ev:Int):∀(t:List aD) (h:List DKey) (w:aC),(lZ ev t h w).2.length=h.length+t.length
  | [],h,w=>rfl
  | p::t,h,w=>by simp only [lZ,SI ev t];simp;omega
theorem OE (ev:Int):∀(t:List aD) (h:List DKey) (w:aC),aQ w→vD t→aQ (lZ ev t h w).1
  | [],h,w,hw,_=>hw
  | p::t,h,w,hw,ht=>by
    simp only [lZ]
    refine OE ev t _ _ ?_ (fun x hx=>ht x (by simp [hx]))
    split
    ·exact GR hw (ht p (by simp)).1
    ·exact hw
theorem B7 {n:Int} (hn:1≤n∧n≤2):∀(d:Nat) (w:aC),aQ w→aQ (lK n d w)
  | 0,w,h=>h
  | d+1,w,h=>by
    simp only [lK]
    split
    ·exact h
    ·exact B7 hn d _ (OH h hn)
theorem QL {w:aC} (h:aQ w):aQ (nP w []):=uD h (by simp) (fun p hp=>by cases hp)
theorem N0 {ev:Int} {s:aC×List DKey} (h:aQ s.1):aQ (M4 ev s).1:=
  B7 (by omega) 4 _ (B7 (by omega) 4 _ (OE ev _ _ _ (QL (DF h)) (DF h).2.2.2.2.2.1))
theorem NF {ev:Int} {s:aC×List DKey} (h:aQ s.1):(M4 ev s).2.length≤s.2.length+1000:=by
  unfold M4
  dsimp only
  rw [SI]
  have:=(DF h).2.2.1
  omega
theorem QZ {ev:Int}:∀(d:Nat) (s:aC×List DKey),aQ s.1→aQ (DG ev d s).1
  | 0,s,h=>h
  | d+1,s,h=>QZ d _ (N0 h)
theorem UZ {w:aC} (h:aQ w) {n ev:Int} (he:1≤ev∧ev≤10):aQ (RT w n ev):=by
  unfold RT;rw [if_pos ⟨h,he⟩];exact QZ _ _ h
def fu_ (m:List (DKey×Int)) (h:List DKey):Prop:=∀key,(SD key m).getD 0=(tK h key:Int)
section
variable (a b:ByteArray) (z:Int) (E2:List aN) (F2:List aD) (G2 T2:List aA) (Q:aC→Prop) (r ev:Int)
theorem gM_ (hev:1≤ev∧ev≤10) (len i:Int) (m:List (DKey×Int)) (p:aD) (L:List aD) (w:aC) (hw:aQ w) (hp:ZP p) (c:Nat) (hm:cA (lH (pk p)) m 0=none∧c=0∨∃j,cA (lH (pk p)) m 0=some (j,(c:Int)))
    (go:∀w',w'=(if (c:Int)%ev=0 then oO w p else w)→Wp (fun k=>iB k r ev len (IntKind.wrap .i64 (i+1)) a z b w'.Key w'.Width w'.Forged m L E2 F2 G2 T2 w'.Ends w'.Flight w'.Given w'.Taken) Q):
    Wp (fun k=>cX k r ev len i a z b w.Key w.Width w.Forged m p.To p.Sent p.Bytes p.To p.Bytes L E2 F2 G2 T2 w.Ends w.Flight w.Given w.Taken) Q:=by
  have l19:∀w',w'=(if (c:Int)%ev=0 then oO w p else w)→Wp (fun k=>iI k r ev len i a z b w'.Key w'.Width w'.Forged m L E2 F2 G2 T2 w'.Ends w'.Flight w'.Given w'.Taken) Q:=fun w' e=>by
    refine Wp.step ?_
    simp only [iI]
    exact go w' e
  refine Wp.step ?_
  simp only [cX]
  rw [show (⟨p.To,p.Bytes⟩:DKey)=pk p from rfl]
  have br:=BJ w hw p hp.1 (by have:=hp.2.2;omega)
  rcases hm with ⟨hm,hc⟩ | ⟨j,hm⟩
  ·subst hc
   simp only [hm,Km.optK]
   refine Wp.opt (nW (by omega) (by omega)) ?_
   simp only [lW]
   refine Wp.ite (fun e=> ?_) (fun e=> ?_)
   ·refine Wp.bind br (fun x hx=> ?_)
    exact l19 x (by rw [if_pos (by simp),hx])
   ·exact l19 w (absurd (Int.zero_emod ev) e)
  ·simp only [hm,Km.optK]
   refine Wp.opt (nW (by omega) (by omega)) ?_
   simp only [lW]
   refine Wp.ite (fun e=> ?_) (fun e=> ?_)
   ·refine Wp.bind br (fun x hx=> ?_)
    exact l19 x (by rw [if_pos e,hx])
   ·exact l19 w (by rw [if_neg e])
theorem gC_ (hev:1≤ev∧ev≤10) (L:List aD) (hL:L.length≤1000):∀(t pre:List aD) (m:List (DKey×Int)) (h:List DKey) (w:aC),pre++t=L→aQ w→vD t→fu_ m h→h.length+t.length≤10000000→
    (∀m',fu_ m' (lZ ev t h w).2→Wp (fun k=>eO k r ev 1 a z b (lZ ev t h w).1.Key (lZ ev t h w).1.Width (lZ ev t h w).1.Forged m' E2 F2 G2 T2 (lZ ev t h w).1.Ends (lZ ev t h w).1.Flight (lZ ev t h w).1.Given (lZ ev t h w).1.Taken) Q)→
    Wp (fun k=>iB k r ev (L.length:Int) (pre.length:Int) a z b w.Key w.Width w.Forged m L E2 F2 G2 T2 w.Ends w.Flight w.Given w.Taken) Q
  | [],pre,m,h,w,he,hw,ht,hm,hh,go=>by
    have he':pre=L:=by simpa using he
    refine Wp.step ?_
    simp only [iB]
    refine Wp.dec (fun g=>by rw [he'] at g;omega) (fun _=>go m hm)
  | p::t,pre,m,h,w,he,hw,ht,hm,hh,go=>by
    have hl:pre.length+(t.length+1)≤1000:=by
      have:(pre++(p::t)).length≤1000:=by rw [he];exact hL
      simpa using this
    simp only [List.length_cons] at hh
    have hc:=QD h (pk p)
    have nx:∀(m':List (DKey×Int)),fu_ m' (h++[pk p])→(∃j,cA (lH (pk p)) m' 0=some (j,((tK h (pk p)+1:Nat):Int)))→Wp (fun k=>cX k r ev (L.length:Int) (pre.length:Int) a z b w.Key w.Width w.Forged m' p.To p.Sent p.Bytes p.To p.Bytes L E2 F2 G2 T2 w.Ends w.Flight w.Given w.Taken) Q:=fun m' h' hf=>by
      refine gM_ a b z E2 F2 G2 T2 Q r ev hev (L.length:Int) (pre.length:Int) m' p L w hw (ht p (by simp)) (tK h (pk p)+1) (.inr hf) (fun w' e=> ?_)
      rw [bR (n:=(pre.length:Int)+1) (by omega) (by omega)]
      have hw':aQ w':=by
        rw [e];split
        ·exact GR hw (ht p (by simp)).1
        ·exact hw
      have:=gC_ hev L hL t (pre++[p]) m' (h++[pk p]) w' (by rw [←he];simp) hw' (fun x hx=>ht x (by simp [hx])) h' (by simp;omega) (by
        have e2:lZ ev t (h++[pk p]) w'=lZ ev (p::t) h w:=by simp only [lZ];rw [e];push_cast;rfl
        rw [e2];exact go)
      rw [show ((pre++[p]).length:Int)=(pre.length:Int)+1 by simp] at this
      exact this
    refine Wp.step ?_
    simp only [iB]
    refine Wp.dec (fun _=> ?_) (fun g=>absurd (by rw [←he];simp;omega) g)
    rw [show idx L (pre.length:Int)=some p by rw [←he];exact bJ,show L[Int.toNat (pre.length:Int)]? =some p by rw [←he,Int.toNat_natCast];simp]
    simp only [Option.bind_some]
    rw [show (⟨p.To,p.Bytes⟩:DKey)=pk p from rfl]
    have hmp:=hm (pk p)
    cases h4:cA (lH (pk p)) m 0 with
    | none=>
      have hn:=NC h4
      rw [hn] at hmp
      simp only [Option.getD_none] at hmp
      have hz:tK h (pk p)=0:=by omega
      simp only [Km.optK,vN h4,Nat.zero_add,j8,Int.toNat_natCast,OG]
      simp only [List.getElem?_append_right (Nat.le_refl _),Nat.sub_self,List.getElem?_cons_zero,Option.bind_some,nC]
      rw [bR (n:=0+1) (by omega) (by omega)]
      refine nx _ (fun key=> ?_) ⟨_,by rw [vN h4,hz];rfl⟩
      rw [IE m hn,zY]
      by_cases e:key=pk p
      ·rw [if_pos e,if_pos e,e,hz];rfl
      ·rw [if_neg e,if_neg e,hm]
    | some q=>
      obtain ⟨j,c⟩:=q
      obtain ⟨d,e1,e2,e3,e4,e5⟩:=MZ h4
      rw [Nat.zero_add] at e1;subst e1
      rw [e3] at hmp
      simp only [Option.getD_some] at hmp
      subst hmp
      simp only [Km.optK,j8,e2,Option.bind_some,Int.toNat_natCast,nC]
      rw [bR (n:=(tK h (pk p):Int)+1) (by omega) (by omega)]
      refine nx _ (fun key=> ?_) ⟨_,by rw [e5];rfl⟩
      rw [e4,zY]
      by_cases e:key=pk p
      ·rw [if_pos e,if_pos e,e];rfl
      ·rw [if_neg e,if_neg e,hm]
theorem fV_ (m:List (DKey×Int)) (n:Int) (hn:1≤n∧n≤2):∀(d:Nat) (i:Int) (w:aC),i+d=4→0≤i→aQ w→
    (Wp (fun k=>eO k r ev (IntKind.wrap .i64 (n+1)) a z b (lK n d w).Key (lK n d w).Width (lK n d w).Forged m E2 F2 G2 T2 (lK n d w).Ends (lK n d w).Flight (lK n d w).Given (lK n d w).Taken) Q)→
    Wp (fun k=>j9 k r ev n i a z b w.Key w.Width w.Forged m E2 F2 G2 T2 w.Ends w.Flight w.Given w.Taken) Q
  | 0,i,w,hi,h0,hw,go=>by
    refine Wp.step ?_
    simp only [j9]
    refine Wp.dec (fun g=>by omega) (fun _=>go)
  | d+1,i,w,hi,h0,hw,go=>by
    refine Wp.step ?_
    simp only [j9]
    refine Wp.dec (fun _=> ?_) (fun g=>by omega)
    obtain ⟨a1,a2,a3⟩:=uF hw.2.2.2.2.1 hn
    simp only [a1,a2,Option.bind_some]
    simp only [lK] at go
    refine Wp.dec (fun g=> ?_) (fun g=> ?_)
    ·rw [if_neg (fun e=>by rw [e] at g;simp at g)] at go
     refine Wp.bind (EP w hw n hn) (fun x hx=> ?_);subst hx
     rw [bR (n:=i+1) (by omega) (by omega)]
     exact fV_ m n hn d (i+1) (JP w n) (by omega) (by omega) (OH hw hn) go
    ·rw [if_pos (by apply List.eq_nil_of_length_eq_zero;omega)] at go
     exact go
theorem ic7 (hev:1≤ev∧ev≤10):∀(d:Nat) (m:List (DKey×Int)) (s:aC×List DKey),aQ s.1→fu_ m s.2→s.2.length+1000*d≤9000000→d≤9000→
    Wp (fun k=>hH k (d:Int) ev a z b s.1.Key s.1.Width s.1.Forged m E2 F2 G2 T2 s.1.Ends s.1.Flight s.1.Given s.1.Taken) (· =(DG ev d s).1)
  | 0,m,s,hs,hm,hl,hd=>by
    refine Wp.step ?_
    simp only [hH]
    refine Wp.dec (fun g=>by omega) (fun _=>Wp.ret rfl)
  | d+1,m,s,hs,hm,hl,hd=>by
    refine Wp.step ?_
    simp only [hH]
    refine Wp.dec (fun _=> ?_) (fun g=>by omega)
    refine Wp.bind (EV s.1 hs) (fun x hx=> ?_);subst hx
    have ht:=DF hs
    have htl:=ht.2.2.1
    refine gC_ a b z E2 F2 G2 T2 _ ((d+1:Nat):Int) ev hev (sX s.1).Flight htl (sX s.1).Flight [] m s.2 (nP (sX s.1) []) rfl (QL ht) ht.2.2.2.2.2.1 hm (by omega) (fun m' hm'=> ?_)
    have hf:=OE ev (sX s.1).Flight s.2 (nP (sX s.1) []) (QL ht) ht.2.2.2.2.2.1
    refine Wp.step ?_
    simp only [eO]
    refine Wp.dec (fun _=> ?_) (fun g=>by omega)
    refine fV_ a b z E2 F2 G2 T2 _ ((d+1:Nat):Int) ev m' 1 (by omega) 4 0 _ (by omega) (by omega) hf ?_
    rw [show IntKind.wrap .i64 (1+1)=2 by rfl]
    refine Wp.step ?_
    simp only [eO]
    refine Wp.dec (fun _=> ?_) (fun g=>by omega)
    refine fV_ a b z E2 F2 G2 T2 _ ((d+1:Nat):Int) ev m' 2 (by omega) 4 0 _ (by omega) (by omega) (B7 (by omega) 4 _ hf) ?_
    rw [show IntKind.wrap .i64 (2+1)=3 by rfl]
    refine Wp.step ?_
    simp only [eO]
    refine Wp.dec (fun g=>by omega) (fun _=> ?_)
    rw [bR (n:=((d+1:Nat):Int)-1) (by omega) (by omega),show ((d+1:Nat):Int)-1=(d:Int) by omega]
    have hlen:=NF (ev:=ev) hs
    exact ic7 hev d m' (M4 ev s) (N0 hs) hm' (by omega) (by omega)
end
theorem VI (w:aC) (hb:w.Given.length≤1048576∧w.Taken.length≤1048576) (n ev:Int):Wp (fun k=>CI k w n ev) (· =RT w n ev):=by
  unfold CI RT
  refine Wp.bind (kR w hb) (fun _ e=> ?_);subst e
  refine Wp.not (fun h=>Wp.ret (by rw [if_neg (fun g=>of_decide_eq_false h g.1)];rfl)) (fun h=> ?_)
  have hv:=of_decide_eq_true h
  refine Wp.dec (fun h=>Wp.ret (by rw [if_neg (fun g=>by omega)];rfl)) (fun h1=> ?_)
  refine Wp.dec (fun h=>Wp.ret (by rw [if_neg (fun g=>by omega)];rfl)) (fun h2=> ?_)
  rw [if_pos ⟨hv,by omega⟩]
  refine Wp.bind (ES w hv) (fun _ e=> ?_);have e'':=e.symm;subst e''
  have hm:fu_ [] []:=fun key=>rfl
  refine Wp.dec (fun h=> ?_) (fun h=> ?_)
  ·rw [show min n 5000=5000 by omega]
   exact ic7 noB noB 0 [] [] [] [] ev (by omega) 5000 [] (w,[]) hv hm (by simp) (by omega)
  ·by_cases h0:0≤n
   ·have:=ic7 noB noB 0 [] [] [] [] ev (by omega) n.toNat [] (w,[]) hv hm (by simp;omega) (by omega)
    rw [show min n 5000=n by omega]
    rw [Int.toNat_of_nonneg h0] at this
    exact this
   ·rw [show (min n 5000).toNat=0 by omega]
    refine Wp.step ?_
    simp only [hH]
    refine Wp.dec (fun g=>by omega) (fun _=>Wp.ret rfl)
def VV (c:bQ):DKey:=⟨c.to,c.bytes⟩
def BH (key:DKey):List bQ→Int
  | []=>0
  | c::l=>if VV c=key then c.n else BH key l
def fw_ (S:List bQ) (h:List DKey):Prop:=∀key,BH key S=(tK h key:Int)
theorem vW {key:DKey} {l:List bQ}:∀{pre:List bQ},(∀c∈pre,VV c≠key)→BH key (pre++l)=BH key l
  | [],_=>rfl
  | c::pre,h=>by
    simp only [List.cons_append,BH]
    rw [if_neg (h c (by simp)),vW (fun x hx=>h x (by simp [hx]))]
theorem PA {key:DKey} {l l':List bQ} (h:BH key l=BH key l'):∀(pre:List bQ),BH key (pre++l)=BH key (pre++l')
  | []=>h
  | c::pre=>by
    simp only [List.cons_append,BH]
    rw [PA h pre]
theorem set_mid {α:Type} (pre t:List α) (y y':α):(pre++y::t).set pre.length y'=pre++y'::t:=by simp
theorem JH (ev:Int) (hev:1≤ev∧ev≤10) (p:aD) (S:List bQ) (hS:S.length≤20000000) (hb:0≤BH (pk p) S∧BH (pk p) S≤20000000):∀(t pre:List bQ),pre++t=S→(∀c∈pre,VV c≠pk p)→
    Wp (fun k=>dI k ev (pre.length:Int) S p.To p.Sent p.Bytes) (fun r=>r.2=decide ((BH (pk p) S+1)%ev=0)∧(∀key,BH key r.1=if key=pk p then BH (pk p) S+1 else BH key S)∧r.1.length≤S.length+1)
  | [],pre,he,hn=>by
    have he':pre=S:=by simpa using he
    refine Wp.step ?_
    simp only [dI]
    refine Wp.dec (fun g=>by rw [he'] at g;omega) (fun _=> ?_)
    refine Wp.opt (bI (by simp;omega)) ?_
    have h0:BH (pk p) S=0:=by rw [←he,vW hn];rfl
    refine Wp.ret ⟨?_,fun key=> ?_,by simp⟩
    ·dsimp only
     rw [h0,Bool.eq_iff_iff]
     simp only [beq_iff_eq,decide_eq_true_eq]
     constructor
     ·intro e;subst e;rfl
     ·intro e
      by_cases h1:ev=1
      ·exact h1
      ·rw [Int.emod_eq_of_lt (by omega) (by omega)] at e;omega
    ·by_cases e:key=pk p
     ·rw [if_pos e,e,h0,←he',vW hn]
      simp [BH,VV,pk]
     ·rw [if_neg e]
      have:BH key ([(⟨p.To,p.Bytes,1⟩:bQ)])=BH key []:=by
        simp only [BH];rw [if_neg (fun g=>e g.symm)]
      have:=PA this S
      simpa using this
  | y::t,pre,he,hn=>by
    have hl:pre.length+(t.length+1)≤20000000:=by
      have:(pre++(y::t)).length≤20000000:=by rw [he];exact hS
      simpa using this
    refine Wp.step ?_
    simp only [dI]
    refine Wp.dec (fun _=> ?_) (fun g=>absurd (by rw [←he];simp;omega) g)
    have i1:idx S (pre.length:Int)=some y:=by rw [←he];exact bJ
    have i2:S[Int.toNat (pre.length:Int)]? =some y:=by rw [←he,Int.toNat_natCast];simp
    simp only [i1,i2,Option.bind_some,lW,nO]
    have nx:VV y≠pk p→Wp (fun k=>dI k ev (IntKind.wrap .i64 ((pre.length:Int)+1)) S p.To p.Sent p.Bytes) (fun r=>r.2=decide ((BH (pk p) S+1)%ev=0)∧(∀key,BH key r.1=if key=pk p then BH (pk p) S+1 else BH key S)∧r.1.length≤S.length+1):=fun hne=>by
      rw [bR (n:=(pre.length:Int)+1) (by omega) (by omega)]
      have:=JH ev hev p S hS hb t (pre++[y]) (by rw [←he];simp) (fun c hc=>by
        simp only [List.mem_append,List.mem_cons,List.not_mem_nil,or_false] at hc
        rcases hc with hc | rfl
        ·exact hn c hc
        ·exact hne)
      rw [show ((pre++[y]).length:Int)=(pre.length:Int)+1 by simp] at this
      exact this
    refine Wp.ite (fun e1=> ?_) (fun e1=>nx (fun g=>e1 (congrArg DKey.to g)))
    refine Wp.ite (fun e2=> ?_) (fun e2=>nx (fun g=>e2 (congrArg DKey.bytes g)))
    have hk:VV y=pk p:=by simp [VV,pk,e1,e2]
    have hy:BH (pk p) S=y.n:=by rw [←he,vW hn];simp only [BH];rw [if_pos hk]
    rw [bR (n:=y.n+1) (by omega) (by omega)]
    have es:∀y':bQ,S.set (Int.toNat (pre.length:Int)) y'=pre++y'::t:=fun y'=>by rw [Int.toNat_natCast,←he];exact set_mid pre t y y'
    simp only [es]
    have j1:∀y':bQ,idx (pre++y'::t) (pre.length:Int)=some y':=fun y'=>bJ
    have j2:∀y':bQ,(pre++y'::t)[Int.toNat (pre.length:Int)]? =some y':=fun y'=>by rw [Int.toNat_natCast];simp
    simp only [j1,j2,Option.bind_some]
    refine Wp.opt (nW (by omega) (by omega)) ?_
    refine Wp.ret ⟨?_,fun key=> ?_,by rw [←he];simp⟩
    ·dsimp only
     rw [hy,Bool.eq_iff_iff];simp
    ·dsimp only
     by_cases e:key=pk p
     ·rw [if_pos e,e,hy,vW hn]
      simp only [BH]
      rw [if_pos (by rw [←hk];rfl)]
     ·rw [if_neg e,←he]
      apply PA
      simp only [BH]
      rw [if_neg (fun g=>e (by rw [←g,←hk];rfl)),if_neg (fun g=>e (by rw [←g,←hk]))]
theorem bz_ (ev:Int) (hev:1≤ev∧ev≤10) (p:aD) (S:List bQ) (h:List DKey) (hc:fw_ S h) (hS:S.length≤h.length) (hh:h.length≤10000000):Wp (fun k=>pG k S p ev) (fun r=>r.2=decide (((tK h (pk p):Int)+1)%ev=0)∧fw_ r.1 (h++[pk p])∧r.1.length≤(h++[pk p]).length):=by
  unfold pG
  have hk:=QD h (pk p)
  have hb:=hc (pk p)
  refine (JH ev hev p S (by omega) (by omega) S [] rfl (fun c hc=>by cases hc)).mono fun r hr=> ?_
  refine ⟨by rw [hr.1,hb],fun key=> ?_,by have:=hr.2.2;simp;omega⟩
  rw [hr.2.1,zY]
  by_cases e:key=pk p
  ·rw [if_pos e,if_pos e,hb,e];rfl
  ·rw [if_neg e,if_neg e,hc]
theorem TR (w:aC) (fl:List aD) (p:aD):oO (nP w fl) p=nP (oO w p) fl:=by
  unfold oO
  by_cases h:(OP p.Bytes w.Key w.Width).2=true
  ·rw [if_pos (show (OP p.Bytes (nP w fl).Key (nP w fl).Width).2=true from h),if_pos h];rfl
  ·rw [if_neg (show¬(OP p.Bytes (nP w fl).Key (nP w fl).Width).2=true from h),if_neg h]
theorem cE_ (w:aC) (p:aD):(oO w p).Flight=w.Flight:=by unfold oO;split<;>rfl
theorem XA (ev:Int):∀(t:List aD) (h:List DKey) (w:aC),(lZ ev t h w).1.Flight=w.Flight
  | [],h,w=>rfl
  | p::t,h,w=>by
    simp only [lZ,XA ev t]
    split
    ·exact cE_ w p
    ·rfl
theorem X3 (w:aC) (n:Int) (x y:Int) (t:ByteArray):BV w ⟨11,n,x,y,t⟩=JP w n:=by
  unfold BV;dsimp only;rw [if_neg (by omega),if_neg (by omega),if_neg (by omega)]
section
variable (a b:ByteArray) (z:Int) (E2:List aN) (F2:List aD) (G2 T2:List aA) (Q:aC→Prop) (r ev i:Int)
theorem sc9 (hev:1≤ev∧ev≤10):∀(t:List aD) (S:List bQ) (h:List DKey) (w:aC),aQ w→vD t→t.length≤1000→fw_ S h→S.length≤h.length→h.length+t.length≤10000000→
    (∀S',fw_ S' (lZ ev t h w).2→S'.length≤(lZ ev t h w).2.length→Wp (fun k=>eN k r ev i 1 a z b (lZ ev t h w).1.Key (lZ ev t h w).1.Width (lZ ev t h w).1.Forged S' E2 F2 G2 T2 (lZ ev t h w).1.Ends [] (lZ ev t h w).1.Given (lZ ev t h w).1.Taken) Q)→
    Wp (fun k=>j6 k r ev i a z b w.Key w.Width w.Forged S E2 F2 G2 T2 w.Ends t w.Given w.Taken) Q
  | [],S,h,w,hw,ht,hl,hc,hS,hh,go=>by
    refine Wp.step ?_
    simp only [j6]
    refine Wp.dec (fun g=>by simp at g) (fun _=>go S hc hS)
  | p::t,S,h,w,hw,ht,hl,hc,hS,hh,go=>by
    simp only [List.length_cons] at hl hh
    refine Wp.step ?_
    simp only [j6]
    refine Wp.dec (fun _=> ?_) (fun g=>absurd (by simp) g)
    rw [show idx (p::t) 0=some p from rfl,show (p::t)[Int.toNat 0]? =some p from rfl]
    simp only [Option.bind_some]
    have hwf:aQ (nP w (p::t)):=uD hw (by simp;omega) ht
    refine Wp.bind (bz_ ev hev p S h hc hS (by omega)) ?_
    rintro ⟨S',ps⟩ ⟨e1,e2,e3⟩
    dsimp only at e1 e2 e3⊢
    simp only [lZ] at go
    refine Wp.bif (fun hp=> ?_) (fun hp=> ?_)
    ·rw [hp] at e1
     rw [if_pos (of_decide_eq_true e1.symm)] at go
     have hb:=CM (nP w (p::t)) hwf 0 (p:=p) rfl
     refine Wp.bind hb (fun x hx=> ?_)
     have hx':x=nP (oO w p) t:=by rw [hx,←TR];rfl
     subst hx'
     exact sc9 hev t S' (h++[pk p]) (oO w p) (GR hw (ht p (by simp)).1) (fun x hx=>ht x (by simp [hx])) (by omega) e2 e3 (by simp;omega) go
    ·rw [hp] at e1
     rw [if_neg (of_decide_eq_false e1.symm)] at go
     refine Wp.bind (DL (p::t) 0 (by simp) (by simp;omega)) (fun x hx=> ?_)
     have hx':x=t:=hx
     subst hx'
     exact sc9 hev x S' (h++[pk p]) w hw (fun x hx=>ht x (by simp [hx])) (by omega) e2 e3 (by simp;omega) go
theorem fJ_ (S:List bQ) (n:Int) (hn:1≤n∧n≤2):∀(d:Nat) (j:Int) (w:aC),j+d=4→0≤j→aQ w→
    (Wp (fun k=>eN k r ev i (IntKind.wrap .i64 (n+1)) a z b (lK n d w).Key (lK n d w).Width (lK n d w).Forged S E2 F2 G2 T2 (lK n d w).Ends (lK n d w).Flight (lK n d w).Given (lK n d w).Taken) Q)→
    Wp (fun k=>kE k r ev i n j a z b w.Key w.Width w.Forged S E2 F2 G2 T2 w.Ends w.Flight w.Given w.Taken) Q
  | 0,j,w,hi,h0,hw,go=>by
    refine Wp.step ?_
    simp only [kE]
    refine Wp.dec (fun g=>by omega) (fun _=>go)
  | d+1,j,w,hi,h0,hw,go=>by
    refine Wp.step ?_
    simp only [kE]
    refine Wp.dec (fun _=> ?_) (fun g=>by omega)
    obtain ⟨a1,a2,a3⟩:=uF hw.2.2.2.2.1 hn
    simp only [a1,a2,Option.bind_some]
    simp only [lK] at go
    refine Wp.dec (fun g=> ?_) (fun g=> ?_)
    ·rw [if_neg (fun e=>by rw [e] at g;simp at g)] at go
     refine Wp.bind (NA w hw ⟨11,n,0,0,noB⟩ (by dsimp only;omega) hn) (fun x hx=> ?_)
     rw [X3] at hx;subst hx
     rw [bR (n:=j+1) (by omega) (by omega)]
     exact fJ_ S n hn d (j+1) (JP w n) (by omega) (by omega) (OH hw hn) go
    ·rw [if_pos (by apply List.eq_nil_of_length_eq_zero;omega)] at go
     exact go
theorem sc6 (hev:1≤ev∧ev≤10):∀(d:Nat) (i:Int) (S:List bQ) (s:aC×List DKey),d=(min r 5000-i).toNat→0≤i∧i≤5000→aQ s.1→fw_ S s.2→S.length≤s.2.length→s.2.length+1000*d≤9000000→
    Wp (fun k=>mB k r ev i a z b s.1.Key s.1.Width s.1.Forged S E2 F2 G2 T2 s.1.Ends s.1.Flight s.1.Given s.1.Taken) (· =(DG ev d s).1)
  | 0,i,S,s,hd,hi,hs,hm,hS,hl=>by
    refine Wp.step ?_
    simp only [mB]
    have cp:Wp (fun k=>(iC k s.1).bind fun x=>some x) (· =(DG ev 0 s).1):=by
      refine Wp.bind (sC s.1 hs) (fun x hx=> ?_)
      exact Wp.ret hx
    refine Wp.dec (fun g=> ?_) (fun _=>cp)
    refine Wp.dec (fun g=>by omega) (fun _=>cp)
  | d+1,i,S,s,hd,hi,hs,hm,hS,hl=>by
    refine Wp.step ?_
    simp only [mB]
    refine Wp.dec (fun _=> ?_) (fun g=>by omega)
    refine Wp.dec (fun _=> ?_) (fun g=>by omega)
    refine Wp.bind (EM s.1 hs) (fun x hx=> ?_);subst hx
    have ht:=DF hs
    have htl:=ht.2.2.1
    refine sc9 a b z E2 F2 G2 T2 _ r ev i hev (sX s.1).Flight S s.2 (nP (sX s.1) []) (QL ht) ht.2.2.2.2.2.1 htl hm hS (by omega) (fun S' hm' hS'=> ?_)
    have hf:=OE ev (sX s.1).Flight s.2 (nP (sX s.1) []) (QL ht) ht.2.2.2.2.2.1
    have hfl:(lZ ev (sX s.1).Flight s.2 (nP (sX s.1) [])).1.Flight=[]:=XA ev _ _ _
    generalize hX:lZ ev (sX s.1).Flight s.2 (nP (sX s.1) [])=X at hf hfl hm' hS'⊢
    rw [←hfl]
    refine Wp.step ?_
    simp only [eN]
    refine Wp.dec (fun _=> ?_) (fun g=>by omega)
    refine fJ_ a b z E2 F2 G2 T2 _ r ev i S' 1 (by omega) 4 0 _ (by omega) (by omega) hf ?_
    rw [show IntKind.wrap .i64 (1+1)=2 by rfl]
    refine Wp.step ?_
    simp only [eN]
    refine Wp.dec (fun _=> ?_) (fun g=>by omega)
    refine fJ_ a b z E2 F2 G2 T2 _ r ev i S' 2 (by omega) 4 0 _ (by omega) (by omega) (B7 (by omega) 4 _ hf) ?_
    rw [show IntKind.wrap .i64 (2+1)=3 by rfl]
    refine Wp.step ?_
    simp only [eN]
    refine Wp.dec (fun g=>by omega) (fun _=> ?_)
    rw [bR (n:=i+1) (by omega) (by omega)]
    have hlen:=NF (ev:=ev) hs
    subst hX
    exact sc6 hev d (i+1) S' (M4 ev s) (by omega) (by omega) (N0 hs) hm' hS' (by omega)
end
theorem UN (w:aC) (hb:w.Given.length≤1048576∧w.Taken.length≤1048576) (n ev:Int):Wp (fun k=>vH k w n ev) (· =RT w n ev):=by
  unfold vH RT
  refine Wp.bind (kJ w hb) (fun _ e=> ?_);subst e
  refine Wp.not (fun h=>Wp.ret (by rw [if_neg (fun g=>of_decide_eq_false h g.1)];rfl)) (fun h=> ?_)
  have hv:=of_decide_eq_true h
  refine Wp.bind (dO _ _ _) (fun _ e=> ?_);subst e
  refine Wp.not (fun h=> ?_) (fun h=> ?_)
  ·simp only [Bool.and_eq_false_iff,decide_eq_false_iff_not] at h
   exact Wp.ret (by rw [if_neg (fun g=>by omega)];rfl)
  simp only [Bool.and_eq_true,decide_eq_true_eq] at h
  rw [if_pos ⟨hv,h⟩]
  refine Wp.bind (sC w hv) (fun _ e=> ?_);have e'':=e.symm;subst e''
  exact sc6 noB noB 0 [] [] [] [] n ev h (min n 5000).toNat 0 [] (w,[]) (by omega) (by omega) hv (fun key=>rfl) (by simp) (by simp;omega)
def Rd (n:Int) (r:eI):Prop:=r.b.length≤2000∧(∀y∈r.b,0≤y∧y≤255)∧0≤r.p∧r.p≤n
theorem Rd.mono {n m:Int} {r:eI} (h:Rd n r) (hm:n≤m):Rd m r:=⟨h.1,h.2.1,h.2.2.1,by have:=h.2.2.2;omega⟩
theorem ff_ (n m:Nat) (hn:n<2^62) (hm:m<2^62):w6 .i64 (n:Int) (m:Int)=((n^^^m:Nat):Int):=by
  have e:∀m:Nat,BitVec.ofInt 64 (m:Int)=BitVec.ofNat 64 m:=fun m=>by
    apply BitVec.eq_of_toNat_eq
    simp [BitVec.toNat_ofInt]
  have hx:=Nat.xor_lt_two_pow hn hm
  show IntKind.wrap .i64 ((BitVec.ofInt 64 ((n:Nat):Int)^^^BitVec.ofInt 64 ((m:Nat):Int)).toNat:Int)=_
  rw [e,e,BitVec.toNat_xor,BitVec.toNat_ofNat,BitVec.toNat_ofNat,Nat.mod_eq_of_lt (by omega),Nat.mod_eq_of_lt (by omega)]
  exact bR (by omega) (by omega)
theorem UD {xs:List Int} {i:Int} (h:0≤i) (h':i<xs.length):∃y∈xs,idx xs i=some y:=by
  have hlt:i.toNat<xs.length:=by omega
  have:=SK hlt
  rw [Int.toNat_of_nonneg h] at this
  exact ⟨_,List.getElem_mem hlt,this⟩
theorem fG (r:eI) (n a:Int) (h:Rd n r) (hn:n≤1000000) (ha:1≤a∧a≤1000000):Wp (fun k=>aU k r a) (fun v=>(0≤v.1∧v.1<a)∧Rd (n+1) v.2):=by
  obtain ⟨h1,h2,h3,h4⟩:=h
  have R1:Rd (n+1) ⟨r.b,r.p+1⟩:=⟨h1,h2,by simp only;omega,by simp only;omega⟩
  unfold aU
  rw [bR (n:=r.p+1) (by omega) (by omega),bR (n:=r.p+1-1) (by omega) (by omega),show r.p+1-1=r.p by omega]
  simp only [aL,lW]
  refine Wp.ite (fun h=>by omega) (fun _=> ?_)
  refine Wp.ite (fun h=>Wp.ret ⟨⟨by omega,by omega⟩,R1⟩) (fun h5=> ?_)
  refine Wp.ite (fun h6=> ?_) (fun h6=> ?_)
  ·obtain ⟨y,hy,e⟩:=UD h3 h6
   have hy:=h2 y hy
   refine Wp.opt e ?_
   rw [bR (by omega) (by omega)]
   refine Wp.opt (nW (by omega) (by omega)) ?_
   exact Wp.ret ⟨⟨Int.emod_nonneg _ (by omega),Int.emod_lt_of_pos _ (by omega)⟩,R1⟩
  ·refine Wp.opt (nW h3 (by omega)) ?_
   obtain ⟨y,hy,e⟩:=UD (xs:=r.b) (Int.emod_nonneg r.p (b:=r.b.length) (by omega)) (Int.emod_lt_of_pos _ (by omega))
   have hy:=h2 y hy
   refine Wp.opt e ?_
   rw [bR (n:=r.p*7) (by omega) (by omega),bR (n:=r.p*7+3) (by omega) (by omega)]
   refine Wp.opt (nW (by omega) (by omega)) ?_
   obtain ⟨z,hz,e⟩:=UD (xs:=r.b) (Int.emod_nonneg (r.p*7+3) (b:=r.b.length) (by omega)) (Int.emod_lt_of_pos _ (by omega))
   have hz:=h2 z hz
   refine Wp.opt e ?_
   refine Wp.opt (DI h3 (by omega)) ?_
   have hd0:0≤r.p/(r.b.length:Int):=Int.ediv_nonneg h3 (by omega)
   have hd1:r.p/(r.b.length:Int)≤r.p:=Int.ediv_le_self _ h3
   generalize r.p/(r.b.length:Int)=d at*
   rw [bR (n:=y) (by omega) (by omega),bR (n:=z) (by omega) (by omega),bR (n:=d) (by omega) (by omega),bR (n:=y*131) (by omega) (by omega),bR (n:=z*1117) (by omega) (by omega),bR (n:=r.p*29) (by omega) (by omega),bR (n:=d*53) (by omega) (by omega),bR (n:=y*131+z*1117) (by omega) (by omega),bR (n:=y*131+z*1117+r.p*29) (by omega) (by omega),bR (n:=y*131+z*1117+r.p*29+d*53) (by omega) (by omega)]
   have hv:0≤y*131+z*1117+r.p*29+d*53∧y*131+z*1117+r.p*29+d*53≤1000000000:=by omega
   generalize y*131+z*1117+r.p*29+d*53=v at*
   refine Wp.opt (DI hv.1 (by omega)) ?_
   rw [bR (n:=v/64) (by omega) (by omega)]
   obtain ⟨m,rfl⟩:=Int.eq_ofNat_of_zero_le hv.1
   rw [show ((m:Int)/64)=((m/64:Nat):Int) by omega,ff_ _ _ (by omega) (by omega)]
   refine Wp.opt (nW (by omega) (by omega)) ?_
   exact Wp.ret ⟨⟨Int.emod_nonneg _ (by omega),Int.emod_lt_of_pos _ (by omega)⟩,R1⟩
theorem PM:∀(n:Nat) (s acc:ByteArray),n≤1000000→acc.size+s.size*n≤1000000→Wp (fun k=>i7 k s (n:Int) acc) (fun r=>r.size=acc.size+s.size*n)
  | 0,s,acc,hn,h=>by
    refine Wp.step ?_
    simp only [i7]
    simp (disch:=omega) only [aL,if_neg]
    exact Wp.ret (by simp)
  | n+1,s,acc,hn,h=>by
    have hs:s.size≤s.size*(n+1):=Nat.le_mul_of_pos_right _ (by omega)
    have hle:(s++s).size*((n+1)/2)+s.size*((n+1)%2)=s.size*(n+1):=by
      rw [aG]
      have:=Nat.div_add_mod (n+1) 2
      calc (s.size+s.size)*((n+1)/2)+s.size*((n+1)%2)=s.size*(2*((n+1)/2)+(n+1)%2):=by rw [Nat.mul_add,←Nat.two_mul,Nat.mul_comm 2 s.size,Nat.mul_assoc]
        _=s.size*(n+1):=by rw [this]
    have G:∀acc':ByteArray,acc'.size=acc.size+s.size*((n+1)%2)→Wp (fun k=>oL k s ((n+1:Nat):Int) acc') (fun r=>r.size=acc.size+s.size*(n+1)):=fun acc' h'=>by
      refine Wp.step ?_
      simp only [oL]
      refine Wp.opt (aY (by omega)) ?_
      refine Wp.opt (DI (by omega) (by omega)) ?_
      rw [bR (by omega) (by omega),show ((n+1:Nat):Int)/2=(((n+1)/2:Nat):Int) by omega]
      exact (PM ((n+1)/2) (s++s) acc' (by omega) (by omega)).mono fun r hr=>by rw [hr];omega
    refine Wp.step ?_
    simp only [i7]
    simp (disch:=omega) only [aL,if_pos,lW]
    refine Wp.opt (nW (by omega) (by omega)) ?_
    refine Wp.ite (fun h1=> ?_) (fun h1=> ?_)
    ·have e:(n+1)%2=1:=by omega
     refine Wp.opt (aY (by omega)) ?_
     exact G _ (by rw [aG,e];omega)
    ·have e:(n+1)%2=0:=by omega
     exact G _ (by rw [e];omega)
theorem TN (s:ByteArray) (n:Int) (B:Nat) (hB:B≤1000000) (h:s.size*n.toNat≤B) (hn1:n≤1000000):Wp (fun k=>qS k s n) (fun r=>r.size≤B):=by
  unfold qS
  by_cases hn:0≤n
  ·have e0:(⟨#[]⟩:ByteArray).size=0:=rfl
   have:=PM n.toNat s (⟨#[]⟩:ByteArray) (by omega) (by rw [e0];omega)
   rw [Int.toNat_of_nonneg hn] at this
   exact this.mono fun r hr=>by rw [hr,e0];omega
  ·refine Wp.step ?_
   simp only [i7]
   simp (disch:=omega) only [aL,if_neg]
   exact Wp.ret (Nat.zero_le _)
theorem E7:∀(d:Nat) (n:Int) (r:eI) (s:ByteArray),Rd n r→n+d≤900000→s.size+d≤100→Wp (fun k=>fW k s (d:Int) r.b r.p) (fun v=>v.1.size≤s.size+d∧Rd (n+d) v.2)
  | 0,n,r,s,h,hn,hs=>by
    refine Wp.step ?_
    simp only [fW]
    simp (disch:=omega) only [aL,if_neg]
    exact Wp.ret ⟨by simp,by simpa using h⟩
  | d+1,n,r,s,h,hn,hs=>by
    refine Wp.step ?_
    simp only [fW]
    simp (disch:=omega) only [aL,if_pos]
    refine Wp.bind (fG r n 5 h (by omega) (by omega)) ?_
    rintro ⟨q,r'⟩ ⟨hq,hr'⟩
    have e5:(⟨#[97,98,99,100,32]⟩:ByteArray).size=5:=rfl
    simp only at hq
    dsimp only
    refine Wp.opt (dF (by rw [e5];omega)) ?_
    dsimp only
    refine Wp.opt (dF (by simp only [ByteArray.size_extract,e5];omega)) ?_
    dsimp only
    refine Wp.opt (aY (by simp only [ByteArray.size_extract,e5];omega)) ?_
    rw [bR (by omega) (by omega),show ((d+1:Nat):Int)-1=(d:Int) by omega]
    have hsz:∀u:ByteArray,(s++u.extract (0:Int).toNat (1:Int).toNat).size≤s.size+1:=fun u=>by
      rw [aG,ByteArray.size_extract];omega
    have hz:=hsz ((⟨#[97,98,99,100,32]⟩:ByteArray).extract q.toNat (((⟨#[97,98,99,100,32]⟩:ByteArray).size:Int)).toNat)
    exact (E7 d (n+1) r' _ hr' (by omega) (by omega)).mono fun v hv=>⟨by omega,hv.2.mono (by omega)⟩
theorem XY (r:eI) (n:Int) (h:Rd n r) (hn:0≤n∧n≤800000):Wp (fun k=>lI k r) (fun v=>v.1.size≤190∧Rd (n+40) v.2):=by
  unfold lI
  refine Wp.bind (fG r n 8 h (by omega) (by omega)) ?_
  rintro ⟨q,r1⟩ ⟨hq,h1⟩
  simp only at hq
  simp only [lW]
  refine Wp.ite (fun _=>Wp.ret ⟨Nat.zero_le _,h1.mono (by omega)⟩) (fun _=> ?_)
  refine Wp.ite (fun _=> ?_) (fun _=> ?_)
  ·refine Wp.bind (fG r1 _ 5 h1 (by omega) (by omega)) ?_
   rintro ⟨q2,r2⟩ ⟨hq2,h2⟩
   refine Wp.bind (fG r2 _ 3 h2 (by omega) (by omega)) ?_
   rintro ⟨q3,r3⟩ ⟨hq3,h3⟩
   refine Wp.bind (fG r3 _ 2 h3 (by omega) (by omega)) ?_
   rintro ⟨q4,r4⟩ ⟨hq4,h4⟩
   refine Wp.bind (fG r4 _ 2 h4 (by omega) (by omega)) ?_
   rintro ⟨q5,r5⟩ ⟨hq5,h5⟩
   simp only at hq2 hq3 hq4 hq5⊢
   have hm:0≤q4*q5∧q4*q5≤1:=by
     have:q4=0∨q4=1:=by omega
     rcases this with rfl | rfl<;>omega
   generalize q4*q5=m at*
   simp (disch:=omega) only [bR]
   refine Wp.bind (TN _ _ 190 (by omega) (by show 1*_≤190;omega) (by omega)) (fun u hu=> ?_)
   exact Wp.ret ⟨hu,h5.mono (by omega)⟩
  refine Wp.ite (fun _=> ?_) (fun _=> ?_)
  ·refine Wp.bind (fG r1 _ 19 h1 (by omega) (by omega)) ?_
   rintro ⟨q2,r2⟩ ⟨hq2,h2⟩
   simp only at hq2⊢
   simp (disch:=omega) only [bR]
   refine Wp.bind (TN _ _ 190 (by omega) (by show 10*_≤190;omega) (by omega)) (fun u hu=> ?_)
   exact Wp.ret ⟨hu,h2.mono (by omega)⟩
  refine Wp.ite (fun _=>Wp.ret ⟨by show 2≤190;omega,h1.mono (by omega)⟩) (fun _=> ?_)
  refine Wp.bind (fG r1 _ 30 h1 (by omega) (by omega)) ?_
  rintro ⟨q2,r2⟩ ⟨hq2,h2⟩
  simp only at hq2⊢
  simp (disch:=omega) only [bR]
  have:=E7 (1+q2).toNat _ r2 (⟨#[]⟩:ByteArray) h2 (by omega) (by show 0+_≤100;omega)
  rw [Int.toNat_of_nonneg (by omega)] at this
  exact this.mono fun v hv=>⟨by have:=hv.1;have e0:(⟨#[]⟩:ByteArray).size=0:=rfl;rw [e0] at this;omega,hv.2.mono (by omega)⟩
theorem QR {R:Type} (x:Option R):Km.both x x=x:=by unfold Km.both;rw [if_pos rfl]
theorem JY {α:Type} {xs:List α} {i:Int} (h:0≤i) (h':i<xs.length):∃y∈xs,idx xs i=some y∧xs[i.toNat]? =some y:=by
  have hlt:i.toNat<xs.length:=by omega
  have:=SK hlt
  rw [Int.toNat_of_nonneg h] at this
  exact ⟨_,List.getElem_mem hlt,this,List.getElem?_eq_getElem hlt⟩
def DSd (n:Int) (v:aK×eI):Prop:=VSend v.1∧Rd n v.2
theorem d18 (n:Int) (r:eI) (c b:Int) (e xs:List aI) (h:VSend ⟨b,xs⟩) (hr:Rd n r):Wp (fun k=>jX k r.b r.p c b e xs) (DSd n):=by
  refine Wp.step ?_
  simp only [jX]
  refine Wp.bind (tC ⟨b,xs⟩ (by have:=h.1;simp only at this⊢;omega)) (fun r2 q=> ?_);rw [q]
  exact Wp.ret ⟨h,hr⟩
theorem d16 (n:Int) (r:eI) (c b m:Int) (e:List aI) (hm:m≤60) (hr:Rd n r):∀(d:Nat) (xs:List aI),VSend ⟨b,xs⟩→d=(m-xs.length).toNat→Wp (fun k=>jY k m r.b r.p c b e xs) (DSd n)
  | 0,xs,h,hd=>by
    refine Wp.step ?_
    simp only [jY]
    simp (disch:=omega) only [aL,if_neg]
    exact d18 n r c b e xs h hr
  | d+1,xs,h,hd=>by
    refine Wp.step ?_
    simp only [jY]
    obtain ⟨h1,h2,h3,h4⟩:=h
    simp only at h1 h2 h3
    simp (disch:=omega) only [aL,if_pos,bR]
    refine Wp.ite (fun hb=> ?_) (fun hb=>d18 n r c b e xs ⟨h1,h2,h3,h4⟩ hr)
    refine Wp.opt (bI (by simp;omega)) ?_
    refine d16 n r c b m e hm hr d _ ⟨by simp;omega,h2,by simp;omega,zV h4 ⟨⟨?_,by simp,fun _=>rfl,fun h=>by simp at h⟩,trivial⟩⟩ (by simp;omega)
    show 1≤20
    omega
theorem d3:∀(d:Nat) (n:Int) (r:eI) (c b:Int) (e xs:List aI),VSend ⟨b,xs⟩→Rd n r→0≤n→n+60*d≤500000→Wp (fun k=>oK k (d:Int) r.b r.p c b e xs) (DSd (n+60*d+10))
  | 0,n,r,c,b,e,xs,h,hr,hn0,hn=>by
    refine Wp.step ?_
    simp only [oK]
    simp (disch:=omega) only [aL,if_neg,lW]
    refine Wp.bind (fG r n 12 hr (by omega) (by omega)) ?_
    rintro ⟨q,r1⟩ ⟨hq,hr1⟩
    simp only
    refine Wp.ite (fun _=> ?_) (fun _=>d18 _ r1 c b e xs h (hr1.mono (by omega)))
    refine Wp.bind (fG r1 _ 3 hr1 (by omega) (by omega)) ?_
    rintro ⟨q2,r2⟩ ⟨hq2,hr2⟩
    simp only at hq2⊢
    rw [bR (by omega) (by omega)]
    exact d16 _ r2 c b _ e (by omega) (hr2.mono (by omega)) _ xs h rfl
  | d+1,n,r,c,b,e,xs,h,hr,hn0,hn=>by
    refine Wp.step ?_
    simp only [oK,QR]
    have hpos:((d+1:Nat):Int)>0:=by omega
    simp only [aL,if_pos hpos]
    have N4:∀(n':Int) (r':eI) (b':Int) (xs':List aI),VSend ⟨b',xs'⟩→Rd n' r'→n'≤n+60→Wp (fun k=>oJ k ((d+1:Nat):Int) r'.b r'.p c b' e xs') (DSd (n+60*(d+1:Nat)+10)):=fun n' r' b' xs' hv hr' hn'=>by
      refine Wp.step ?_
      simp only [oJ]
      rw [bR (by omega) (by omega),show ((d+1:Nat):Int)-1=(d:Int) by omega]
      exact (d3 d (n+60) r' c b' e xs' hv (hr'.mono hn') (by omega) (by omega)).mono fun v hv=>⟨hv.1,hv.2.mono (by omega)⟩
    have N9:∀(j:Nat) (n':Int) (r':eI) (b':Int) (xs':List aI),j≤10→VSend ⟨b',xs'⟩→Rd n' r'→n'≤n+50→Wp (fun k=>kX k ((d+1:Nat):Int) (j:Int) r'.b r'.p c b' e xs') (DSd (n+60*(d+1:Nat)+10)):=by
      intro j
      induction j with
      | zero=>
        intro n' r' b' xs' hj hv hr' hn'
        refine Wp.step ?_
        simp only [kX]
        simp (disch:=omega) only [aL,if_neg,lW]
        refine Wp.bind (fG r' n' 3 hr' (by omega) (by omega)) ?_
        rintro ⟨q,r1⟩ ⟨hq,hr1⟩
        simp only
        refine Wp.ite (fun _=> ?_) (fun _=>N4 _ r1 b' xs' hv hr1 (by omega))
        refine Wp.bind (fG r1 _ 4 hr1 (by omega) (by omega)) ?_
        rintro ⟨q2,r2⟩ ⟨hq2,hr2⟩
        refine Wp.bind (fG r2 _ 256 hr2 (by omega) (by omega)) ?_
        rintro ⟨q3,r3⟩ ⟨hq3,hr3⟩
        refine Wp.bind (KN _ _ _) (fun _ q=> ?_);subst q
        exact N4 _ r3 _ _ (WF _ _ _) hr3 (by omega)
      | succ j ih=>
        intro n' r' b' xs' hj hv hr' hn'
        refine Wp.step ?_
        simp only [kX]
        have hpos:((j+1:Nat):Int)>0:=by omega
        simp only [aL,if_pos hpos]
        refine Wp.bind (I4 _) (fun _ q=> ?_);subst q
        rw [bR (by omega) (by omega),show ((j+1:Nat):Int)-1=(j:Int) by omega]
        exact ih n' r' _ _ (by omega) (GC _).1 hr' hn'
    have N8:∀(n':Int) (r':eI) (b':Int) (xs':List aI),VSend ⟨b',xs'⟩→Rd n' r'→n'≤n+45→Wp (fun k=>eQ k ((d+1:Nat):Int) r'.b r'.p c b' e xs') (DSd (n+60*(d+1:Nat)+10)):=fun n' r' b' xs' hv hr' hn'=>by
      refine Wp.step ?_
      simp only [eQ]
      refine Wp.bind (fG r' n' 6 hr' (by omega) (by omega)) ?_
      rintro ⟨q,r1⟩ ⟨hq,hr1⟩
      simp only at hq⊢
      have:=N9 q.toNat _ r1 b' xs' (by omega) hv hr1 (by omega)
      rwa [Int.toNat_of_nonneg hq.1] at this
    refine Wp.bind (XY r n hr (by omega)) ?_
    rintro ⟨u,r1⟩ ⟨hu,hr1⟩
    refine Wp.bind (JO _ _) (fun _ q=> ?_);subst q
    simp only [lW]
    exact Wp.ite (fun _=>N8 _ r1 _ _ (WO _ _) hr1 (by omega)) (fun _=>N8 _ r1 _ _ h hr1 (by omega))
def P8 (n:Int) (v:aK×eI):Prop:=Rd n v.2
theorem p21 (n:Int) (r:eI) (c b:Int) (e xs:List aI) (hr:Rd n r):Wp (fun k=>cU k r.b r.p c b e xs) (P8 n):=by
  refine Wp.step ?_
  simp only [cU]
  exact Wp.ret hr
theorem p19 (n:Int) (r:eI) (c b m:Int) (e:List aI) (hm:m≤100) (hr:Rd n r):∀(d:Nat) (xs:List aI),xs.length≤200→d=(m-xs.length).toNat→Wp (fun k=>iT k m r.b r.p c b e xs) (P8 n)
  | 0,xs,h,hd=>by
    refine Wp.step ?_
    simp only [iT]
    simp (disch:=omega) only [aL,if_neg]
    exact p21 n r c b e xs hr
  | d+1,xs,h,hd=>by
    refine Wp.step ?_
    simp only [iT]
    simp (disch:=omega) only [aL,if_pos]
    refine Wp.opt (bI (by simp;omega)) ?_
    exact p19 n r c b m e hm hr d _ (by simp;omega) (by simp;omega)
theorem p6 (n:Int) (r:eI) (c b:Int) (e:List aI) (hr:Rd n r) (hn:n≤900000):∀(d:Nat) (xs:List aI),xs.length≤200→d=9-xs.length→Wp (fun k=>jN k r.b r.p c b e xs) (P8 (n+1))
  | 0,xs,h,hd=>by
    refine Wp.step ?_
    simp only [jN]
    simp (disch:=omega) only [aL,if_neg]
    refine Wp.bind (fG r n 2 hr (by omega) (by omega)) ?_
    rintro ⟨q,r1⟩ ⟨hq,hr1⟩
    obtain ⟨y,_,e1,e2⟩:=JY (xs:=xs) (i:=8) (by omega) (by omega)
    simp only [e1,e2,Option.bind_some]
    exact p21 _ r1 c b e _ hr1
  | d+1,xs,h,hd=>by
    refine Wp.step ?_
    simp only [jN]
    simp (disch:=omega) only [aL,if_pos]
    refine Wp.opt (bI (by simp;omega)) ?_
    exact p6 n r c b e hr hn d _ (by simp;omega) (by simp;omega)
theorem p4 (n:Int) (r:eI) (c b:Int) (e xs:List aI) (hr:Rd n r) (hn:n≤890000) (hx:0<xs.length∧xs.length≤100):Wp (fun k=>w9 k r.b r.p c b e xs) (P8 (n+10)):=by
  have L:∀(n':Int) (r':eI) (b':Int) (xs':List aI),Rd n' r'→n'≤n+10→Wp (fun k=>cU k r'.b r'.p c b' e xs') (P8 (n+10)):=fun n' r' b' xs' h h'=>p21 _ r' c b' e xs' (h.mono h')
  refine Wp.step ?_
  simp only [w9,QR]
  refine Wp.bind (fG r n (xs.length:Int) hr (by omega) (by omega)) ?_
  rintro ⟨q,r1⟩ ⟨hq,hr1⟩
  refine Wp.bind (fG r1 _ 6 hr1 (by omega) (by omega)) ?_
  rintro ⟨q2,r2⟩ ⟨hq2,hr2⟩
  simp only at hq hq2
  obtain ⟨y,_,e1,e2⟩:=JY (xs:=xs) hq.1 hq.2
  simp only [e1,e2,Option.bind_some,lW]
  refine Wp.ite (fun _=> ?_) (fun _=> ?_)
  ·refine Wp.bind (fG r2 _ 3 hr2 (by omega) (by omega)) ?_
   rintro ⟨q3,r3⟩ ⟨hq3,hr3⟩
   simp only at hq3
   obtain ⟨z,_,f1,f2⟩:=JY (xs:=([(-1),1000000,1000001]:List Int)) hq3.1 (by simp;omega)
   simp only [f1,f2,Option.bind_some]
   exact L _ r3 _ _ hr3 (by omega)
  refine Wp.ite (fun _=> ?_) (fun _=> ?_)
  ·refine Wp.bind (fG r2 _ 5 hr2 (by omega) (by omega)) ?_
   rintro ⟨q3,r3⟩ ⟨hq3,hr3⟩
   simp only at hq3
   obtain ⟨z,_,f1,f2⟩:=JY (xs:=([(-2),(-1),0,3,4]:List Int)) hq3.1 (by simp;omega)
   simp only [f1,f2,Option.bind_some]
   exact L _ r3 _ _ hr3 (by omega)
  refine Wp.ite (fun _=>L _ r2 _ _ hr2 (by omega)) (fun _=> ?_)
  refine Wp.ite (fun _=> ?_) (fun _=> ?_)
  ·refine Wp.bind (fG r2 _ 2 hr2 (by omega) (by omega)) ?_
   rintro ⟨q3,r3⟩ ⟨hq3,hr3⟩
   simp only at hq3⊢
   rw [bR (by omega) (by omega)]
   refine Wp.bind (TN _ _ 100 (by omega) (by show 1*_≤100;omega) (by omega)) (fun u hu=> ?_)
   exact L _ r3 _ _ hr3 (by omega)
  refine Wp.ite (fun _=> ?_) (fun _=> ?_)
  ·refine Wp.bind (fG r2 _ 2 hr2 (by omega) (by omega)) ?_
   rintro ⟨q3,r3⟩ ⟨hq3,hr3⟩
   simp only at hq3⊢
   rw [bR (by omega) (by omega)]
   exact p19 _ r3 c b _ e (by omega) (hr3.mono (by omega)) _ xs (by omega) rfl
  ·exact (p6 _ r2 c b e hr2 (by omega) _ xs (by omega) rfl).mono fun v hv=>Rd.mono hv (by omega)
theorem Wp.pick {R:Type} {Q:R→Prop} {g:Nat→Int×eI→Option R} {r:eI} {n a:Int} (h:Rd n r) (hn:n≤1000000) (ha:1≤a∧a≤1000000) (H:∀q r',0≤q→q<a→Rd (n+1) r'→Wp (fun k=>g k (q,r')) Q):Wp (fun k=>(aU k r a).bind (g k)) Q:=
  Wp.bind (fG r n a h hn ha) (fun v hv=>H v.1 v.2 hv.1.1 hv.1.2 hv.2)
theorem Wp.from {R α:Type} {Q:R→Prop} {xs:List α} {i:Int} {g:Nat→α→Option R} (h0:0≤i) (h1:i<xs.length) (H:∀y∈xs,Wp (fun k=>g k y) Q):Wp (fun k=>(idx xs i).bind (g k)) Q:=by
  obtain ⟨y,hy,e,_⟩:=JY h0 h1
  exact Wp.opt e (H y hy)
end Km.X
