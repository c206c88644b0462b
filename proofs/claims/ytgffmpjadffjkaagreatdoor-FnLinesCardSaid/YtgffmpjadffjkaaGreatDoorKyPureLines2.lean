/- A part of the proof of FnLines: plain laws of these functions. There is no condition. -/
import Derived.Test.YtgffmpjadffjkaaGreatDoorKyPureLines1
import Derived.Test.YtgffmpjadffjkaaGreatDoorKxDef3
import Derived.Test.YtgffmpjadffjkaaGreatDoorKxDef2
set_option linter.unusedVariables false
set_option linter.unusedSimpArgs false
namespace Km.X
open Go Km
def UI (q:Int) (p:cA):List aR→Option (List aR)
  | []=>some [⟨q,p⟩]
  | x::t=>if x.Seq=q then none else if q<x.Seq then some (⟨q,p⟩::x::t) else (UI q p t).map (x:: ·)
def U8 (t:aL) (q:Int) (p:cA):aL:=
  if VTake t then
   if (t.Next≤q∧q≤t.Next+7∧q≤999999)∧p.Text.size≤20 then (match UI q p t.Held with | none=>t | some h=>xB h t.Next t.Open t.Ready)
   else t
  else B5
def SmH (h:List aR):Prop:=∀x∈h,x.Seq≤999999∧x.Part.Text.size≤1000
theorem T6 (c:Int) (e:ByteArray) (h h2:List aR) (r2:List ByteArray) (hh:List aR) (n:Int) (o:ByteArray) (r:List ByteArray) (hl:h.length≤100) (hs:SmH h) (hn:0≤n) (ho:o.size≤200) (hr:r.length≤4):
    Wp (fun k=>gQ k c e n o h h2 r2 hh r) (· =xB h n o r):=by
  refine Wp.step ?_
  simp only [gQ]
  refine Wp.bind (ID _ hl hs hn ho hr) (fun _ q=> ?_);subst q
  exact Wp.ret rfl
theorem dW_ (q:Int) (p:cA) (c n1:Int) (e o1:ByteArray) (r1:List ByteArray) (h2:List aR) (r2:List ByteArray) (hh:List aR) (n:Int) (o:ByteArray) (r:List ByteArray) (hn:0≤n) (ho:o.size≤200) (hr:r.length≤4):∀(t pre acc:List aR),(pre++t).length≤100→acc.length+t.length≤100→(∀x∈t,q<x.Seq)→SmH acc→SmH t→
    Wp (fun k=>cZ k q true (pre.length:Int) n1 (pre++t) o1 r1 p.Text p.Last c e n o acc h2 r2 hh r) (· =xB (acc++t) n o r)
  | [],pre,acc,hl,ha,hq,hs,hs'=>by
    refine Wp.step ?_
    simp only [cZ,List.append_nil]
    have hn':¬(pre.length:Int)<(pre.length:Int):=by omega
    simp only [aJ,if_neg hn',Bool.not_true,cond_false]
    exact T6 _ _ _ _ _ _ _ _ _ (by simpa using ha) hs hn ho hr
  | x::t,pre,acc,hl,ha,hq,hs,hs'=>by
    refine Wp.step ?_
    have hl':=hl
    simp only [List.length_append,List.length_cons] at hl ha
    have hx:=hq x (List.mem_cons_self ..)
    have hne:¬x.Seq=q:=by omega
    simp only [cZ]
    simp only [aJ,iE,if_true,bK,Option.bind_some,kH,if_neg hne,Bool.not_true,cond_false]
    refine Wp.step ?_
    simp only [dQ,bK,Option.bind_some]
    refine Wp.opt (bP (by simp;omega)) ?_
    simp (disch:=omega) only [bQ]
    have ih:=dW_ q p c n1 e o1 r1 h2 r2 hh n o r hn ho hr t (pre++[x]) (acc++[x]) (by simpa using hl') (by simp;omega) (fun y hy=>hq y (List.mem_cons_of_mem _ hy)) (fun y hy=>by
      rcases List.mem_append.mp hy with hy | hy
      ·exact hs y hy
      ·simp only [List.mem_singleton] at hy;subst hy;exact hs' y (List.mem_cons_self ..)) (fun y hy=>hs' y (List.mem_cons_of_mem _ hy))
    rw [←cM,←bV] at ih
    simp only [List.append_assoc,List.cons_append,List.nil_append] at ih
    exact ih
theorem CV {a:List aR} {x:aR} (h:SmH a) (hx:x.Seq≤999999∧x.Part.Text.size≤1000):SmH (a++[x]):=fun y hy=>by
  rcases List.mem_append.mp hy with hy | hy
  ·exact h y hy
  ·simp only [List.mem_singleton] at hy;subst hy;exact hx
theorem bI_ (q:Int) (p:cA) (hq:q≤999999) (hp:p.Text.size≤20) (c n1:Int) (e o1:ByteArray) (r1:List ByteArray) (h2:List aR) (r2:List ByteArray) (hh:List aR) (n:Int) (o:ByteArray) (r:List ByteArray) (hn:0≤n) (ho:o.size≤200) (hr:r.length≤4):∀(t pre:List aR) (b:Int),(pre++t).length≤50→WHs n1 b t→SmH pre→SmH t→
    Wp (fun k=>cZ k q false (pre.length:Int) n1 (pre++t) o1 r1 p.Text p.Last c e n o pre h2 r2 hh r) (· =match UI q p t with | none=>⟨n,hh,o,r⟩ | some h=>xB (pre++h) n o r)
  | [],pre,b,hl,hw,hs,hs'=>by
    refine Wp.step ?_
    simp only [cZ,List.append_nil,UI]
    rw [List.append_nil] at hl
    have hn':¬(pre.length:Int)<(pre.length:Int):=by omega
    simp only [aJ,if_neg hn',Bool.not_false,cond_true]
    refine Wp.opt (bP (by simp;omega)) ?_
    exact T6 _ _ _ _ _ _ _ _ _ (by simp;omega) (CV hs ⟨hq,by simp only;omega⟩) hn ho hr
  | x::t,pre,b,hl,⟨hw1,hw2⟩,hs,hs'=>by
    refine Wp.step ?_
    have hl':=hl
    simp only [List.length_append,List.length_cons] at hl
    have hx:=hs' x (List.mem_cons_self ..)
    have hs2:SmH t:=fun y hy=>hs' y (List.mem_cons_of_mem _ hy)
    simp only [cZ,UI]
    simp only [aJ,iE,if_true,bK,Option.bind_some,kH,Bool.not_false,cond_true]
    refine Wp.ite (fun h1=>Wp.ret (by rw [if_pos h1])) (fun h1=> ?_)
    rw [if_neg h1]
    refine Wp.ite (fun h3=> ?_) (fun h3=> ?_)
    ·rw [if_pos (by omega)]
     refine Wp.opt (bP (by simp;omega)) ?_
     refine Wp.step ?_
     simp only [dQ,bK,Option.bind_some]
     refine Wp.opt (bP (by simp;omega)) ?_
     simp (disch:=omega) only [bQ]
     have:=dW_ q p c n1 e o1 r1 h2 r2 hh n o r hn ho hr t (pre++[x]) (pre++[⟨q,p⟩]++[x]) (by simp;omega) (by simp;omega) (fun y hy=>by have:=b4_ hw2 y hy;omega) (CV (CV hs ⟨hq,by simp only;omega⟩) hx) hs2
     rw [←cM,←bV] at this
     simp only [List.append_assoc,List.cons_append,List.nil_append] at this⊢
     exact this
    ·rw [if_neg (by omega)]
     refine Wp.step ?_
     simp only [dQ,bK,Option.bind_some]
     refine Wp.opt (bP (by simp;omega)) ?_
     simp (disch:=omega) only [bQ]
     have ih:=bI_ q p hq hp c n1 e o1 r1 h2 r2 hh n o r hn ho hr t (pre++[x]) x.Seq (by simpa using hl') hw2 (CV hs hx) hs2
     rw [←cM,←bV] at ih
     refine ih.mono fun v hv=> ?_
     rw [hv]
     cases UI q p t<;>simp
theorem VE (t:aL) (q:Int) (p:cA):Wp (fun k=>qD k t q p) (· =U8 t q p):=by
  unfold qD U8
  refine Wp.bind (lV t) (fun _ e=> ?_);subst e
  simp only [cE,aJ]
  refine Wp.ite (fun h=> ?_) (fun h=>Wp.ret (by rw [if_neg h]))
  rw [if_pos h]
  have hsm:=h.small
  obtain ⟨h1,h2,h3,h4,h5,h6,h7⟩:=h
  refine Wp.bind (CJ t (by omega) (by omega)) (fun r2 e=> ?_);rw [e]
  obtain ⟨n,hd,o,r⟩:=t
  refine Wp.bind (b6_ n q hd o r h1) (fun _ e=> ?_);subst e
  simp only [aJ]
  refine Wp.ite (fun g=> ?_) (fun g=>Wp.ret (by rw [if_neg (fun w=>g w.1)]))
  refine Wp.ite (fun g2=>Wp.ret (by rw [if_neg (fun w=>by have:=w.2;omega)])) (fun g2=> ?_)
  rw [if_pos ⟨g,by omega⟩]
  exact bI_ q p g.2.2 (by omega) _ n _ o r _ _ hd n o r h1.1 h3 h4 hd [] (n-1) (by simp only at h2;simp;omega) h6 (fun y hy=>by simp at hy) hsm
theorem ef_ (pre s:List aR) (z:aR):∃w,cpy (pre++s++[z]) (pre.length+1) (pre.length+s.length+1) (iA (pre++s++[z]) pre.length (pre.length+s.length+1))=pre++w::s:=by
  have e0:iA (pre++s++[z]) pre.length (pre.length+s.length+1)=s++[z]:=by
    simp only [iA]
    rw [List.take_of_length_le (by simp;omega),List.append_assoc,List.drop_left']
    rfl
  rw [e0]
  unfold cpy
  rw [show pre.length+s.length+1-(pre.length+1)=s.length by omega]
  have e1:(s++[z]).take s.length=s:=by simp
  have e2:(pre++s++[z]).drop (pre.length+1+min s.length (s++[z]).length)=[]:=by
    apply List.drop_eq_nil_of_le;simp;omega
  rw [e1,e2,List.append_nil]
  cases s with
  | nil=>exact ⟨z,by rw [List.append_nil,List.take_of_length_le (by simp)];simp⟩
  | cons w s=>exact ⟨w,by simp [List.take_append,List.take_of_length_le]⟩
theorem dY_ (q:Int) (p:cA) (n:Int) (o:ByteArray) (r:List ByteArray) (hn:0≤n) (ho:o.size≤200) (hr:r.length≤4) (pre s:List aR) (hl:(pre++s).length≤50) (hs:SmH (pre++⟨q,p⟩::s)):
    Wp (fun k=>(app 32 (pre++s) ([(⟨0,(⟨(⟨#[]⟩:ByteArray),false⟩:cA)⟩:aR)]:List aR)).bind fun l6=>
            (wnd l6.length (IntKind.wrap .i64 ((pre.length:Int)+1)) (l6.length:Int)).bind fun p7=>
            (wnd l6.length (pre.length:Int) (l6.length:Int)).bind fun p8=>
            (idx (cpy l6 p7.1 p7.2 (iA l6 p8.1 p8.2)) (pre.length:Int)).bind fun _=>
            ((cpy l6 p7.1 p7.2 (iA l6 p8.1 p8.2))[(Int.toNat (pre.length:Int))]?).bind fun y9=>
            (m6 k (⟨n,((cpy l6 p7.1 p7.2 (iA l6 p8.1 p8.2)).set (Int.toNat (pre.length:Int)) (⟨q,p⟩:aR)),o,r⟩:aL)).bind fun r10=>
            some r10) (· =xB (pre++⟨q,p⟩::s) n o r):=by
  simp only [List.length_append] at hl
  refine Wp.opt (bP (by simp;omega)) ?_
  rw [bQ (by omega) (by omega)]
  have hN:(pre++s++[(⟨0,(⟨(⟨#[]⟩:ByteArray),false⟩:cA)⟩:aR)]).length=pre.length+s.length+1:=by simp;omega
  rw [hN]
  refine Wp.opt (bX (by omega)) ?_
  refine Wp.opt (bX (by omega)) ?_
  dsimp only
  simp only [show ((pre.length:Int)+1).toNat=pre.length+1 by omega,Int.toNat_natCast]
  obtain ⟨w,e⟩:=ef_ pre s (⟨0,(⟨(⟨#[]⟩:ByteArray),false⟩:cA)⟩:aR)
  rw [e]
  simp only [bK,Option.bind_some]
  have e2:(pre++w::s)[pre.length]? =some w:=by simp
  have e3:(pre++w::s).set pre.length (⟨q,p⟩:aR)=pre++⟨q,p⟩::s:=by simp
  simp only [e2,e3,Option.bind_some]
  refine Wp.bind (K5 ⟨n,pre++⟨q,p⟩::s,o,r⟩ (by simp;omega) hs hn ho hr) (fun _ q=> ?_);subst q
  exact Wp.ret rfl
theorem bJ_ (q:Int) (p:cA) (hq:q≤999999) (hp:p.Text.size≤20) (c:Int) (e:ByteArray) (h2:List aR) (r2:List ByteArray) (n:Int) (o:ByteArray) (r:List ByteArray) (n1:Int) (hn:0≤n) (ho:o.size≤200) (hr:r.length≤4):∀(t pre:List aR) (b:Int),(pre++t).length≤50→WHs n1 b t→SmH pre→SmH t→
    Wp (fun k=>fO k q (pre.length:Int) p.Text p.Last c e n o h2 r2 (pre++t) r) (· =match UI q p t with | none=>⟨n,pre++t,o,r⟩ | some h=>xB (pre++h) n o r)
  | [],pre,b,hl,hw,hs,hs'=>by
    refine Wp.step ?_
    simp only [fO,UI]
    have hn':¬(pre.length:Int)<((pre++[]).length:Int):=by simp
    simp only [aJ,if_neg hn']
    exact dY_ q p n o r hn ho hr pre [] hl (by
      intro y hy
      rcases List.mem_append.mp hy with hy | hy
      ·exact hs y hy
      ·simp only [List.mem_singleton] at hy;subst hy;exact ⟨hq,by simp only;omega⟩)
  | x::t,pre,b,hl,⟨hw1,hw2⟩,hs,hs'=>by
    refine Wp.step ?_
    have hl':=hl
    simp only [List.length_append,List.length_cons] at hl
    have hx:=hs' x (List.mem_cons_self ..)
    have hs2:SmH t:=fun y hy=>hs' y (List.mem_cons_of_mem _ hy)
    simp only [fO,UI]
    simp only [aJ,iE,if_true,bK,j5,Option.bind_some,kH]
    refine Wp.ite (fun h1=> ?_) (fun h1=> ?_)
    ·rw [if_neg (by omega),if_neg (by omega)]
     simp (disch:=omega) only [bQ]
     have ih:=bJ_ q p hq hp c e h2 r2 n o r n1 hn ho hr t (pre++[x]) x.Seq (by simpa using hl') hw2 (CV hs hx) hs2
     rw [←cM,←bV] at ih
     refine ih.mono fun v hv=> ?_
     rw [hv]
     cases UI q p t<;>simp
    ·refine Wp.ite (fun h2=>Wp.ret (by rw [if_pos h2])) (fun h2=> ?_)
     rw [if_neg h2,if_pos (by omega)]
     exact dY_ q p n o r hn ho hr pre (x::t) hl' (by
       intro y hy
       rcases List.mem_append.mp hy with hy | hy
       ·exact hs y hy
       ·rcases List.mem_cons.mp hy with rfl | hy
        ·exact ⟨hq,by simp only;omega⟩
        ·exact hs' y hy)
theorem U5 (t:aL) (q:Int) (p:cA):Wp (fun k=>qF k t q p) (· =U8 t q p):=by
  unfold qF U8
  refine Wp.bind (lZ t) (fun _ e=> ?_);subst e
  simp only [cE,aJ]
  refine Wp.ite (fun h=> ?_) (fun h=>Wp.ret (by rw [if_neg h]))
  rw [if_pos h]
  have hsm:=h.small
  obtain ⟨h1,h2,h3,h4,h5,h6,h7⟩:=h
  refine Wp.bind (KO t (by omega) (by omega)) (fun r2 e=> ?_);rw [e]
  obtain ⟨n,hd,o,r⟩:=t
  simp only at h1 h2 h3 h4
  rw [bQ (n:=n+8) (by omega) (by omega),bQ (n:=n+8-1) (by omega) (by omega)]
  refine Wp.bind (B6 _ _ _) (fun _ e=> ?_);subst e
  simp only [inB,aJ]
  refine Wp.ite (fun g=> ?_) (fun g=>Wp.ret (by rw [if_neg (fun w=>by have:=w.1;omega)]))
  refine Wp.ite (fun g1=>Wp.ret (by rw [if_neg (fun w=>by have:=w.1;omega)])) (fun g1=> ?_)
  refine Wp.ite (fun g2=>Wp.ret (by rw [if_neg (fun w=>by have:=w.2;omega)])) (fun g2=> ?_)
  rw [if_pos ⟨by omega,by omega⟩]
  exact bJ_ q p (by omega) (by omega) _ _ _ _ n o r n h1.1 h3 h4 hd [] (n-1) (by simp;omega) h6 (fun y hy=>by simp at hy) hsm
theorem dL_ {n:Int} (q:Int) (p:cA) (hq:q≤n+7) (hq':q≤999999) (hp:p.Text.size≤20):∀{t h:List aR} {b:Int},b<q→WHs n b t→UI q p t=some h→WHs n b h
  | [],h,b,hb,hw,e=>by
    simp only [UI,Option.some.injEq] at e;subst e
    exact ⟨⟨hb,hq,hq',hp⟩,trivial⟩
  | x::t,h,b,hb,⟨hw1,hw2⟩,e=>by
    simp only [UI] at e
    split at e
    ·cases e
    ·split at e
     ·simp only [Option.some.injEq] at e;subst e
      exact ⟨⟨hb,hq,hq',hp⟩,⟨by omega,hw1.2⟩,hw2⟩
     ·cases ht:UI q p t with
      | none=>rw [ht] at e;cases e
      | some h'=>
        rw [ht] at e
        simp only [Option.map_some,Option.some.injEq] at e;subst e
        exact ⟨hw1,dL_ q p hq hq' hp (by omega) hw2 ht⟩
theorem aE_ {n:Int}:∀{l:List aR} {b:Int},WHs n b l→b≤n+7→(l.length:Int)≤n+7-b
  | [],b,_,h=>by simp only [List.length_nil];omega
  | x::t,b,⟨h1,h2⟩,h=>by
    have:=aE_ h2 h1.2.1
    simp only [List.length_cons];omega
theorem e1_ (t:aL) (q:Int) (p:cA):VTake (U8 t q p):=by
  unfold U8
  split
  ·rename_i h
   split
   ·rename_i g
    cases ht:UI q p t.Held with
    | none=>exact h
    | some hh=>
      obtain ⟨h1,h2,h3,h4,h5,h6,h7⟩:=h
      have hw:=dL_ q p g.1.2.1 g.1.2.2 g.2 (by omega) h6 ht
      have hlen:=aE_ hw (by omega)
      exact O9 t.Next hh t.Next t.Open t.Ready (Int.le_refl _) hw (by omega) h1.1 h1.2 h3 h4 h5
   ·exact h
  ·exact DG
def TK (p:aF):Prop:=
  (1≤p.From∧p.From≤2)∧(1≤p.Mine∧p.Mine≤1000)∧(0≤p.Yours∧p.Yours≤1000)∧
  ((p.Kind=1∧(0≤p.Next∧p.Next≤1000000)∧(0≤p.Mask∧p.Mask≤255)∧p.Seq=0∧p.Last=false∧p.Part=noB)∨
   (p.Kind=2∧p.Next=0∧p.Mask=0∧(0≤p.Seq∧p.Seq≤999999)∧p.Part.size≤20))
instance (p:aF):Decidable (TK p):=by unfold TK;infer_instance
theorem lN (p:aF):Wp (fun k=>cL k p) (· =decide (TK p)):=by
  unfold cL
  have key:(p.From=1∨p.From=2)→Wp (fun k=>
    (bR k p.Mine 1 1000).bind fun r6=>
    bif (!r6) then
      some false
    else
      (bR k p.Yours 0 1000).bind fun r7=>
      bif (!r7) then
        some false
      else
        bif (p.Kind==1) then
          (bR k p.Next 0 1000000).bind fun r8=>
          bif r8 then
            (bR k p.Mask 0 255).bind fun r9=>
            bif r9 then
              bif (p.Seq==0) then
                bif (!p.Last) then
                  some (p.Part.toList==(⟨#[]⟩:ByteArray).toList)
                else
                  some false
              else
                some false
            else
              some false
          else
            some false
        else
          bif (p.Kind==2) then
            bif (p.Next==0) then
              bif (p.Mask==0) then
                (bR k p.Seq 0 999999).bind fun r10=>
                bif r10 then
                  some (decide ((p.Part.size:Int)≤20))
                else
                  some false
              else
                some false
            else
              some false
          else
            some false) (· =decide (TK p)):=by
    intro hf
    have F:∀{Q:Prop},(TK p→False)→false=decide (TK p):=fun h=>(decide_eq_false h).symm
    refine Wp.bind (B6 _ _ _) (fun _ e=> ?_);subst e
    simp only [inB,cE,aJ,kH,dE_]
    refine Wp.ite (fun h1=> ?_) (fun h1=>Wp.ret (F (Q:=True) fun h=>h1 h.2.1))
    refine Wp.bind (B6 _ _ _) (fun _ e=> ?_);subst e
    simp only [inB,cE,aJ,kH,dE_]
    refine Wp.ite (fun h2=> ?_) (fun h2=>Wp.ret (F (Q:=True) fun h=>h2 h.2.2.1))
    refine Wp.ite (fun h3=> ?_) (fun h3=> ?_)
    ·have W:TK p→(0≤p.Next∧p.Next≤1000000)∧(0≤p.Mask∧p.Mask≤255)∧p.Seq=0∧p.Last=false∧p.Part=noB:=fun h=>by
       rcases h.2.2.2 with h | h
       ·exact h.2
       ·omega
     refine Wp.bind (B6 _ _ _) (fun _ e=> ?_);subst e
     simp only [inB,cE,aJ,kH,dE_]
     refine Wp.ite (fun h4=> ?_) (fun h4=>Wp.ret (F (Q:=True) fun h=>h4 (W h).1))
     refine Wp.bind (B6 _ _ _) (fun _ e=> ?_);subst e
     simp only [inB,cE,aJ,kH,dE_]
     refine Wp.ite (fun h5=> ?_) (fun h5=>Wp.ret (F (Q:=True) fun h=>h5 (W h).2.1))
     refine Wp.ite (fun h6=> ?_) (fun h6=>Wp.ret (F (Q:=True) fun h=>h6 (W h).2.2.1))
     refine Wp.bif (fun h7=>Wp.ret (F (Q:=True) fun h=>by rw [(W h).2.2.2.1] at h7;cases h7)) (fun h7=> ?_)
     refine Wp.ret ?_
     rw [decide_eq_decide]
     exact ⟨fun h=>⟨by omega,h1,h2, .inl ⟨h3,h4,h5,h6,h7,h⟩⟩,fun h=>(W h).2.2.2.2⟩
    ·refine Wp.ite (fun h4=> ?_) (fun h4=>Wp.ret (F (Q:=True) fun h=>by rcases h.2.2.2 with h | h<;>omega))
     have W:TK p→p.Next=0∧p.Mask=0∧(0≤p.Seq∧p.Seq≤999999)∧p.Part.size≤20:=fun h=>by
       rcases h.2.2.2 with h | h
       ·omega
       ·exact h.2
     refine Wp.ite (fun h5=> ?_) (fun h5=>Wp.ret (F (Q:=True) fun h=>h5 (W h).1))
     refine Wp.ite (fun h6=> ?_) (fun h6=>Wp.ret (F (Q:=True) fun h=>h6 (W h).2.1))
     refine Wp.bind (B6 _ _ _) (fun _ e=> ?_);subst e
     simp only [inB,cE,aJ,kH,dE_]
     refine Wp.ite (fun h7=> ?_) (fun h7=>Wp.ret (F (Q:=True) fun h=>h7 (W h).2.2.1))
     refine Wp.ret ?_
     rw [decide_eq_decide]
     exact ⟨fun h=>⟨by omega,h1,h2, .inr ⟨h4,h5,h6,h7,by omega⟩⟩,fun h=>by have:=(W h).2.2.2;omega⟩
  simp only [DD]
  refine Wp.ite (fun h=>key (.inl h)) (fun h=> ?_)
  refine Wp.ite (fun h=>key (.inr h)) (fun h2=>Wp.ret (decide_eq_false ?_).symm)
  intro h'
  have:=h'.1
  omega
theorem bV_ (p:aF) (h:1≤p.From∧p.From≤2) (k:Nat):oZ k p=cL k p:=by
  have e:a6 k p.From 1 2=some true:=by
    unfold a6
    simp only [aJ]
    rw [if_pos (by omega)]
    congr 1
    exact decide_eq_true h.2
  unfold oZ cL
  rw [e]
  have hi:∀a b c,a6 k a b c=bR k a b c:=fun _ _ _=>rfl
  simp only [hi,Option.bind_some,Bool.not_true,cond_false,DD]
  by_cases h1:p.From=1
  ·rw [if_pos h1]
  ·rw [if_neg h1,if_pos (by omega)]
theorem bv_ (p:aF):Wp (fun k=>oZ k p) (· =decide (TK p)):=by
  by_cases h:1≤p.From∧p.From≤2
  ·have:(fun k=>oZ k p)=fun k=>cL k p:=funext fun k=>bV_ p h k
   rw [this];exact lN p
  ·unfold oZ
   refine Wp.bind (dM _ _ _) (fun _ e=> ?_);subst e
   rw [inB,decide_eq_false h]
   exact Wp.ret (decide_eq_false fun h'=>h h'.1).symm
def N (w:Nat) (x:Int):ByteArray:=mD (lK w x.toNat)
theorem nR (w:Nat) (x:Int):(N w x).size=w:=by simp [N,kZ,nQ]
theorem JT:∀(d w i n:Nat) (tail:List Int),i+d=w→w≤8→n<2^62→tail.length+d≤100→
    Wp (fun k=>fI k (n:Int) (w:Int) (mD tail) (i:Int)) (· =mD (lK d n++tail))
  | 0,w,i,n,tail,h,hw,hn,ht=>by
    refine Wp.step ?_
    simp only [fI]
    simp (disch:=omega) only [aJ,if_neg]
    exact Wp.ret rfl
  | d+1,w,i,n,tail,h,hw,hn,ht=>by
    refine Wp.step ?_
    simp only [fI]
    simp (disch:=omega) only [aJ,if_pos,X6,YZ,Option.bind_some,cc_,S9,bQ,cO_]
    have ih:=JT d w (i+1) (n/256) (((n%256:Nat):Int)::tail) (by omega) hw (by omega) (by simp;omega)
    simpa [lK] using ih
theorem o7 {w:Nat} {x:Int} (hw:w≤8) (hx:0≤x∧x≤1000000):Wp (fun k=>dU k x (w:Int)) (· =N w x):=by
  obtain ⟨n,rfl⟩:∃n:Nat,x=n:=⟨x.toNat,by omega⟩
  have:=JT w w 0 n [] (by omega) hw (by omega) (by simp;omega)
  rw [List.append_nil] at this
  exact this
theorem cb_:∀(d n:Nat) (b:List Int),d≤b.length→b.length≤8→n<2^62→Wp (fun k=>qM k (n:Int) ((d:Int)-1) b) (· =mD (lK d n++b.drop d))
  | 0,n,b,hd,hb,hn=>by
    refine Wp.step ?_
    simp only [qM]
    simp (disch:=omega) only [aJ,if_neg]
    exact Wp.ret (by simp [lK])
  | d+1,n,b,hd,hb,hn=>by
    refine Wp.step ?_
    simp only [qM]
    rw [show ((d+1:Nat):Int)-1=(d:Int) by omega]
    have hlt:d<b.length:=by omega
    simp (disch:=first | omega | decide) only [aJ,if_pos,hv_,hB_,Option.bind_some,hz_,bQ,wu8]
    have ih:=cb_ d (n/256) (b.set d ((n%256:Nat):Int)) (by simp;omega) (by simpa using hb) (by omega)
    rw [QZ hlt] at ih
    rw [Int.toNat_natCast]
    exact ih
theorem T4 {w:Nat} {x:Int} (hw:w≤8) (hx:0≤x∧x≤1000000):Wp (fun k=>qZ k x (w:Int)) (· =N w x):=by
  obtain ⟨n,rfl⟩:∃n:Nat,x=n:=⟨x.toNat,by omega⟩
  unfold qZ
  refine Wp.opt (x:=w) (by rw [if_pos rfl];exact eJ_ (by omega)) ?_
  have:=cb_ w n (List.replicate w 0) (by simp) (by simpa using hw) (by omega)
  rw [List.drop_eq_nil_of_le (by simp),List.append_nil] at this
  rw [bQ (by omega) (by omega)]
  exact this
theorem YW (x y z:ByteArray):x++y++z=x++(y++z):=by
  apply ByteArray.ext;simp
def DH (p:aF):ByteArray:=N 1 p.Kind++N 1 p.From++N 2 p.Mine++N 2 p.Yours
def ek_ (b:Bool):Int:=bif b then 1 else 0
def rT (p:aF):ByteArray:=
  if p.Kind=1 then DH p++N 4 p.Next++N 1 p.Mask else DH p++N 4 p.Seq++N 1 (ek_ p.Last)++p.Part
theorem ET (p:aF):(DH p).size=6:=by simp [DH,nR]
theorem DW (p:aF) (h:TK p):(rT p).size≤31:=by
  have hs:=ET p
  unfold rT
  rcases h.2.2.2 with ⟨hk1,_⟩ | ⟨hk2,_,_,_,g4⟩
  ·rw [if_pos hk1];simp [nR,hs]
  ·rw [if_neg (by omega)];simp [nR,hs];omega
theorem aL_ (p:aF) (h:TK p):Wp (fun k=>qV k p) (· =rT p):=by
  obtain ⟨h1,h2,h3,h4⟩:=h
  have hK:0≤p.Kind∧p.Kind≤1000000:=by rcases h4 with h | h<;>omega
  unfold qV
  refine Wp.bind (o7 (w:=1) (by omega) hK) (fun _ e=> ?_);subst e
  refine Wp.bind (o7 (w:=1) (by omega) (by omega)) (fun _ e=> ?_);subst e
  refine Wp.opt (aP (by simp [nR])) ?_
  refine Wp.bind (o7 (w:=2) (by omega) (by omega)) (fun _ e=> ?_);subst e
  refine Wp.opt (aP (by simp [nR])) ?_
  refine Wp.bind (o7 (w:=2) (by omega) (by omega)) (fun _ e=> ?_);subst e
  refine Wp.opt (aP (by simp [nR])) ?_
  have hd:N 1 p.Kind++N 1 p.From++N 2 p.Mine++N 2 p.Yours=DH p:=rfl
  rw [hd]
  have hs:=ET p
  simp only [kH]
  refine Wp.ite (fun hk=> ?_) (fun hk=> ?_)
  ·rcases h4 with ⟨_,g1,g2,_⟩ | ⟨hk2,_⟩
   ·refine Wp.bind (o7 (w:=4) (by omega) (by omega)) (fun _ e=> ?_);subst e
    refine Wp.opt (aP (by simp [nR,hs])) ?_
    refine Wp.bind (o7 (w:=1) (by omega) (by omega)) (fun _ e=> ?_);subst e
    refine Wp.opt (aP (by simp [nR,hs])) ?_
    exact Wp.ret (by rw [rT,if_pos hk])
   ·omega
  ·rcases h4 with ⟨hk1,_⟩ | ⟨hk2,g1,g2,g3,g4⟩
   ·exact absurd hk1 hk
   have key:∀l,0≤l∧l≤1000000→Wp (fun k=>lJ k (DH p) l p.Kind p.From p.Mine p.Yours p.Next p.Mask p.Seq p.Last p.Part) (· =DH p++N 4 p.Seq++N 1 l++p.Part):=fun l hl=>by
     refine Wp.step ?_
     simp only [lJ]
     refine Wp.bind (o7 (w:=4) (by omega) (by omega)) (fun _ e=> ?_);subst e
     refine Wp.opt (aP (by simp [nR,hs])) ?_
     refine Wp.bind (o7 (w:=1) (by omega) hl) (fun _ e=> ?_);subst e
     refine Wp.opt (aP (by simp [nR,hs])) ?_
     refine Wp.opt (aP (by simp [nR,hs];omega)) ?_
     exact Wp.ret rfl
   have hb:rT p=DH p++N 4 p.Seq++N 1 (ek_ p.Last)++p.Part:=by rw [rT,if_neg hk]
   rw [hb]
   cases hl:p.Last
   ·have:=key 0 (by omega)
    rw [hl] at this;exact this
   ·have:=key 1 (by omega)
    rw [hl] at this;exact this
def AG (p:aF) (b:ByteArray) (w:Int):ByteArray:=if TK p∧(1≤w∧w≤8)∧b.size≤30 then cY_ (rT p) b w++rT p else noB
theorem JX (p:aF) (b:ByteArray) (w:Int):Wp (fun k=>hH k p b w) (· =AG p b w):=by
  unfold hH AG
  refine Wp.bind (bv_ p) (fun _ e=> ?_);subst e
  simp only [cE,aJ]
  refine Wp.ite (fun h1=> ?_) (fun h1=>Wp.ret (by rw [if_neg (fun h=>h1 h.1)]))
  refine Wp.bind (dM _ _ _) (fun _ e=> ?_);subst e
  simp only [inB,cE,aJ]
  refine Wp.ite (fun h2=> ?_) (fun h2=>Wp.ret (by rw [if_neg (fun h=>h2 h.2.1)]))
  refine Wp.ite (fun h3=>Wp.ret (by rw [if_neg (fun h=>by omega)])) (fun h3=> ?_)
  rw [if_pos ⟨h1,h2,by omega⟩]
  have hs:=DW p h1
  refine Wp.bind (aL_ p h1) (fun _ e=> ?_);subst e
  refine Wp.bind (Y9 _ b w (by omega)) (fun _ e=> ?_);subst e
  refine Wp.bind (aL_ p h1) (fun _ e=> ?_);subst e
  have ht:=IC (rT p) b w
  refine Wp.opt (aP (by omega)) ?_
  exact Wp.ret rfl
theorem IM (p:aF) (b:ByteArray) (w:Int):Wp (fun k=>hJ k p b w) (· =AG p b w):=by
  unfold hJ AG
  refine Wp.bind (lN p) (fun _ e=> ?_);subst e
  simp only [cE,aJ]
  refine Wp.ite (fun h1=> ?_) (fun h1=>Wp.ret (by rw [if_neg (fun h=>h1 h.1)]))
  refine Wp.ite (fun h2=>Wp.ret (by rw [if_neg (fun h=>by omega)])) (fun h2=> ?_)
  refine Wp.ite (fun h3=>Wp.ret (by rw [if_neg (fun h=>by omega)])) (fun h3=> ?_)
  refine Wp.ite (fun h4=>Wp.ret (by rw [if_neg (fun h=>by omega)])) (fun h4=> ?_)
  rw [if_pos ⟨h1,by omega,by omega⟩]
  have hbs:=DW p h1
  have ht:=IC (rT p) b w
  obtain ⟨g1,g2,g3,g4⟩:=h1
  have hK:0≤p.Kind∧p.Kind≤1000000:=by rcases g4 with h | h<;>omega
  refine Wp.bind (T4 (w:=1) (by omega) hK) (fun _ e=> ?_);subst e
  refine Wp.bind (T4 (w:=1) (by omega) (by omega)) (fun _ e=> ?_);subst e
  refine Wp.opt (aP (by simp [nR])) ?_
  refine Wp.bind (T4 (w:=2) (by omega) (by omega)) (fun _ e=> ?_);subst e
  refine Wp.opt (aP (by simp [nR])) ?_
  refine Wp.bind (T4 (w:=2) (by omega) (by omega)) (fun _ e=> ?_);subst e
  refine Wp.opt (aP (by simp [nR])) ?_
  have hd:N 1 p.Kind++N 1 p.From++N 2 p.Mine++N 2 p.Yours=DH p:=rfl
  rw [hd]
  have hs:=ET p
  have l10:Wp (fun k=>fF k b w (rT p)) (· =cY_ (rT p) b w++rT p):=by
    refine Wp.step ?_
    simp only [fF]
    refine Wp.bind (ZL _ b w (by omega)) (fun _ e=> ?_);subst e
    refine Wp.opt (aP (by omega)) ?_
    exact Wp.ret rfl
  simp only [kH]
  refine Wp.ite (fun hk=> ?_) (fun hk=> ?_)
  ·rcases g4 with ⟨_,q1,q2,_⟩ | ⟨hk2,_⟩
   ·refine Wp.bind (T4 (w:=4) (by omega) (by omega)) (fun _ e=> ?_);subst e
    refine Wp.bind (T4 (w:=1) (by omega) (by omega)) (fun _ e=> ?_);subst e
    refine Wp.opt (aP (by simp [nR])) ?_
    refine Wp.opt (aP (by simp [nR,hs])) ?_
    have e:DH p++(N 4 p.Next++N 1 p.Mask)=rT p:=by rw [rT,if_pos hk,YW]
    rw [e];exact l10
   ·omega
  ·rcases g4 with ⟨hk1,_⟩ | ⟨hk2,q1,q2,q3,q4⟩
   ·exact absurd hk1 hk
   have key:∀l,0≤l∧l≤1000000→DH p++N 4 p.Seq++N 1 l++p.Part=rT p→Wp (fun k=>fX k b w (DH p) l p.Kind p.From p.Mine p.Yours p.Next p.Mask p.Seq p.Last p.Part) (· =cY_ (rT p) b w++rT p):=fun l hl e=>by
     refine Wp.step ?_
     simp only [fX]
     refine Wp.bind (T4 (w:=4) (by omega) (by omega)) (fun _ e=> ?_);subst e
     refine Wp.bind (T4 (w:=1) (by omega) hl) (fun _ e=> ?_);subst e
     refine Wp.opt (aP (by simp [nR])) ?_
     refine Wp.opt (aP (by simp [nR];omega)) ?_
     refine Wp.opt (aP (by simp [nR,hs];omega)) ?_
     rw [show DH p++(N 4 p.Seq++N 1 l++p.Part)=rT p by rw [←e];simp only [YW]]
     exact l10
   have hb0:rT p=DH p++N 4 p.Seq++N 1 (ek_ p.Last)++p.Part:=by rw [rT,if_neg hk]
   cases hl:p.Last
   ·rw [hl] at hb0
    have:=key 0 (by omega) hb0.symm
    rw [hl] at this
    exact this
   ·rw [hl] at hb0
    have:=key 1 (by omega) hb0.symm
    rw [hl] at this
    exact this
theorem ZF (p:aF) (b:ByteArray) (w:Int):(AG p b w).size≤39:=by
  unfold AG
  split
  ·rename_i h
   rw [aD]
   have:=DW p h.1
   have:=IC (rT p) b w
   omega
  ·simp [sG]
def TN (e:aN) (p:aF):aY:=
  if p.Yours=e.Life then
   if p.Kind=1 then ⟨0,⟨e.Number,e.Up,e.Life,e.Peer,e.Since,e.Owes,VC e.Send p.Next p.Mask,e.Take⟩,[],noB⟩
   else ⟨0,⟨e.Number,e.Up,e.Life,e.Peer,e.Since,true,e.Send,U8 e.Take p.Seq ⟨p.Part,p.Last⟩⟩,[],noB⟩
  else ⟨0,⟨e.Number,e.Up,e.Life,e.Peer,e.Since,true,e.Send,e.Take⟩,[],noB⟩
def cU_ (e:aN) (p:aF):aN:=if p.Mine>e.Peer then ⟨e.Number,e.Up,e.Life,p.Mine,e.Since,true,wR,B5⟩ else e
def IF (e:aN) (p:aF):aY:=
  if VEnd e then
   if e.Up=true∧TK p∧¬p.From=e.Number∧¬p.Mine<e.Peer then TN (cU_ e p) p else ⟨0,e,[],noB⟩
  else ⟨1,D3,[],noB⟩
theorem R4 (e:aN) (p:aF):Wp (fun k=>sB k e p) (· =IF e p):=by
  unfold sB IF
  refine Wp.bind (d5 _) (fun _ q=> ?_);subst q
  simp only [aJ,cE,kH]
  refine Wp.ite (fun h1=> ?_) (fun h1=>Wp.ret (by rw [if_neg h1]))
  rw [if_pos h1]
  refine Wp.bind (oV e h1) (fun r q=> ?_);rw [q]
  refine Wp.bif (fun u=> ?_) (fun u=>Wp.ret (by rw [if_neg (fun g=>by have:=g.1;rw [u] at this;cases this)]))
  refine Wp.bind (bv_ p) (fun _ q=> ?_);subst q
  simp only [aJ]
  refine Wp.ite (fun h2=> ?_) (fun h2=>Wp.ret (by rw [if_neg (fun g=>h2 g.2.1)]))
  refine Wp.ite (fun h3=>Wp.ret (by rw [if_neg (fun g=>g.2.2.1 h3)])) (fun h3=> ?_)
  refine Wp.ite (fun h4=>Wp.ret (by rw [if_neg (fun g=>g.2.2.2 h4)])) (fun h4=> ?_)
  rw [if_pos ⟨u,h2,h3,h4⟩]
  have M:∀(n:Int) (uu:Bool) (li pe si:Int) (ow:Bool) (b:Int) (it:List aQ) (nn:Int) (hd:List aR) (o:ByteArray) (rr:List ByteArray),
   Wp (fun k=>iR k p.Kind p.From p.Mine p.Yours p.Next p.Mask p.Seq p.Last p.Part 0 0 false 0 0 0 false 0 0 (⟨#[]⟩:ByteArray) (⟨#[]⟩:ByteArray) n uu li pe si ow b nn o ([]:List aQ) ([]:List aR) ([]:List ByteArray) ([]:List aF) it hd rr) (· =TN ⟨n,uu,li,pe,si,ow,⟨b,it⟩,⟨nn,hd,o,rr⟩⟩ p):=by
    intro n uu li pe si ow b it nn hd o rr
    refine Wp.step ?_
    simp only [iR,DD,kH,TN]
    refine Wp.ite (fun h5=> ?_) (fun h5=>Wp.ret (by rw [if_neg h5]))
    rw [if_pos h5]
    refine Wp.ite (fun h6=> ?_) (fun h6=> ?_)
    ·rw [if_pos h6]
     refine Wp.bind (W0 _ _ _) (fun _ q=> ?_);subst q
     exact Wp.ret rfl
    ·rw [if_neg h6]
     refine Wp.bind (VE _ _ _) (fun _ q=> ?_);subst q
     exact Wp.ret rfl
  unfold cU_
  refine Wp.ite (fun h5=> ?_) (fun h5=> ?_)
  ·rw [if_pos h5];exact M _ _ _ _ _ _ _ _ _ _ _ _
  ·rw [if_neg h5];exact M _ _ _ _ _ _ _ _ _ _ _ _
theorem TW (e:aN) (p:aF):Wp (fun k=>rY k e p) (· =IF e p):=by
  unfold rY IF
  refine Wp.bind (dY _) (fun _ q=> ?_);subst q
  simp only [aJ,cE,kH]
  refine Wp.ite (fun h1=> ?_) (fun h1=>Wp.ret (by rw [if_neg h1]))
  rw [if_pos h1]
  refine Wp.bind (mN e h1) (fun r q=> ?_);rw [q]
  refine Wp.bif (fun u=> ?_) (fun u=>Wp.ret (by rw [if_neg (fun g=>by have:=g.1;rw [u] at this;cases this)]))
  refine Wp.bind (lN p) (fun _ q=> ?_);subst q
  simp only [aJ]
  refine Wp.ite (fun h2=> ?_) (fun h2=>Wp.ret (by rw [if_neg (fun g=>h2 g.2.1)]))
  refine Wp.ite (fun h3=>Wp.ret (by rw [if_neg (fun g=>g.2.2.1 h3)])) (fun h3=> ?_)
  refine Wp.ite (fun h4=>Wp.ret (by rw [if_neg (fun g=>g.2.2.2 h4)])) (fun h4=> ?_)
  rw [if_pos ⟨u,h2,h3,h4⟩]
  have M:∀(n:Int) (uu:Bool) (li pe si:Int) (ow:Bool) (b:Int) (it:List aQ) (nn:Int) (hd:List aR) (o:ByteArray) (rr:List ByteArray),
   Wp (fun k=>jW k p.Kind p.From p.Mine p.Yours p.Next p.Mask p.Seq p.Last p.Part 0 0 false 0 0 0 false 0 0 (⟨#[]⟩:ByteArray) (⟨#[]⟩:ByteArray) 0 n uu li pe si ow b nn o (⟨#[]⟩:ByteArray) ([]:List aQ) ([]:List aR) ([]:List ByteArray) ([]:List aF) it hd rr ([]:List aF)) (· =TN ⟨n,uu,li,pe,si,ow,⟨b,it⟩,⟨nn,hd,o,rr⟩⟩ p):=by
    intro n uu li pe si ow b it nn hd o rr
    refine Wp.step ?_
    simp only [jW,DD,kH,TN]
    refine Wp.ite (fun h5=> ?_) (fun h5=>Wp.ret (by rw [if_neg h5]))
    rw [if_pos h5]
    refine Wp.ite (fun h6=> ?_) (fun h6=> ?_)
    ·rw [if_pos h6]
     refine Wp.bind (WF _ _ _) (fun _ q=> ?_);subst q
     refine Wp.step ?_
     simp only [iW]
     exact Wp.ret rfl
    ·rw [if_neg h6]
     refine Wp.bind (U5 _ _ _) (fun _ q=> ?_);subst q
     refine Wp.step ?_
     simp only [iW]
     exact Wp.ret rfl
  unfold cU_
  refine Wp.ite (fun h5=> ?_) (fun h5=> ?_)
  ·rw [if_pos h5];exact M _ _ _ _ _ _ _ _ _ _ _ _
  ·rw [if_neg h5];exact M _ _ _ _ _ _ _ _ _ _ _ _
def g2_ (l:List UInt8):Int:=l.foldl (fun v c=>v*256+(c.toNat:Int)) 0
theorem WX {n:Nat} (h:n≤6):(256:Int)^n≤281474976710656:=by
  have:n=0∨n=1∨n=2∨n=3∨n=4∨n=5∨n=6:=by omega
  rcases this with rfl | rfl | rfl | rfl | rfl | rfl | rfl<;>decide
theorem RD (s:ByteArray):∀(t pre:List UInt8) (v:Int),s.data.toList=pre++t→s.size≤6→0≤v∧v<256^pre.length→
    Wp (fun k=>jE k s v (pre.length:Int)) (· =t.foldl (fun v c=>v*256+(c.toNat:Int)) v)
  | [],pre,v,h,hs,hv=>by
    refine Wp.step ?_
    have:=rX h
    simp only [List.length_nil] at this
    simp only [jE]
    simp (disch:=omega) only [aJ,if_neg]
    exact Wp.ret rfl
  | c::t,pre,v,h,hs,hv=>by
    refine Wp.step ?_
    have hl:=rX h
    simp only [List.length_cons] at hl
    have hp:=WX (n:=pre.length) (by omega)
    have hc:=c.toNat_lt
    simp only [jE]
    simp (disch:=omega) only [aJ,if_pos,iM h,Option.bind_some,bQ]
    have ih:=RD s t (pre++[c]) (v*256+(c.toNat:Int)) (by simpa using h) hs (by
      rw [List.length_append,List.length_singleton,Int.pow_succ];omega)
    rwa [←bV] at ih
theorem QB (s:ByteArray) (h:s.size≤6):Wp (fun k=>n9 k s) (· =g2_ s.data.toList):=RD s s.data.toList [] 0 rfl h (by decide)
theorem fM_ (n c:Nat) (h:c<256):(n*256) ||| c=n*256+c:=by
  have:=Nat.shiftLeft_add_eq_or_of_lt (a:=n) (i:=8) (b:=c) (by simpa using h)
  rw [Nat.shiftLeft_eq] at this
  simpa using this.symm
theorem Z4 (n c:Nat) (hn:n<281474976710656) (hc:c<256):X7 .i64 ((n*256:Nat):Int) (c:Int)=((n*256+c:Nat):Int):=by
  have e:∀m:Nat,BitVec.ofInt 64 (m:Int)=BitVec.ofNat 64 m:=fun m=>by
    apply BitVec.eq_of_toNat_eq
    simp [BitVec.toNat_ofInt]
  show IntKind.wrap .i64 ((BitVec.ofInt 64 ((n*256:Nat):Int) ||| BitVec.ofInt 64 (c:Int)).toNat:Int)=_
  rw [e,e,BitVec.toNat_or,BitVec.toNat_ofNat,BitVec.toNat_ofNat,Nat.mod_eq_of_lt (by omega),Nat.mod_eq_of_lt (by omega),fM_ n c hc]
  exact bQ (by omega) (by omega)
theorem hI_ (n:Nat) (h:n<36028797018963968):shift .shl .i64 (n:Int) 8=some ((n*256:Nat):Int):=by
  simp only [shift]
  rw [if_neg (by omega)]
  congr 1
  rw [show (Int.toNat 8)=8 from rfl,show min 8 IntKind.i64.bits=8 from rfl]
  rw [bQ (by omega) (by omega)]
  simp
theorem YQ (s:ByteArray):∀(t pre:List UInt8) (v:Nat),s.data.toList=pre++t→s.size≤6→(v:Int)<256^pre.length→
    Wp (fun k=>oE k s (v:Int) (pre.length:Int)) (· =t.foldl (fun v c=>v*256+(c.toNat:Int)) (v:Int))
  | [],pre,v,h,hs,hv=>by
    refine Wp.step ?_
    have:=rX h
    simp only [List.length_nil] at this
    simp only [oE]
    simp (disch:=omega) only [aJ,if_neg]
    exact Wp.ret rfl
  | c::t,pre,v,h,hs,hv=>by
    refine Wp.step ?_
    have hl:=rX h
    simp only [List.length_cons] at hl
    have hp:=WX (n:=pre.length) (by omega)
    have hp':=WX (n:=pre.length+1) (by omega)
    rw [Int.pow_succ] at hp'
    have hc:=c.toNat_lt
    simp only [oE]
    simp (disch:=omega) only [aJ,if_pos,iM h,Option.bind_some,bQ,hI_,Z4]
    have ih:=YQ s t (pre++[c]) (v*256+c.toNat) (by simpa using h) hs (by
      rw [List.length_append,List.length_singleton,Int.pow_succ];omega)
    rw [←bV] at ih
    rw [List.foldl_cons]
    have e:((v*256+c.toNat:Nat):Int)=(v:Int)*256+(c.toNat:Int):=by omega
    rw [e] at ih⊢
    exact ih
theorem YM (s:ByteArray) (h:s.size≤6):Wp (fun k=>yM k s) (· =g2_ s.data.toList):=YQ s s.data.toList [] 0 rfl h (by decide)
def at' (b:ByteArray) (i:Nat):UInt8:=b.data.toList.getD i 0
theorem tH {b:ByteArray} {i:Nat} (h:i<b.size):zN b (i:Int)=some (at' b i):=by
  unfold zN at'
  rw [if_neg (by omega),Int.toNat_natCast]
  have e:b[i]? =some (b[i]'h):=by simp [h]
  rw [e]
  have:b.data.toList[i]? =some (b[i]'h):=by
    rw [Array.getElem?_toList,Array.getElem?_eq_getElem (show i<b.data.size from h)];rfl
  rw [List.getD_eq_getElem?_getD,this];rfl
def WQ:aF:=⟨0,0,0,0,0,0,0,false,noB⟩
def ff_ (b:ByteArray) (i j:Nat):Int:=g2_ (b.extract i j).data.toList
def C2 (b:ByteArray):aF:=
  if ((at' b 0).toNat:Int)=1 then ⟨(at' b 0).toNat,(at' b 1).toNat,ff_ b 2 4,ff_ b 4 6,ff_ b 6 10,(at' b 10).toNat,0,false,noB⟩
  else ⟨(at' b 0).toNat,(at' b 1).toNat,ff_ b 2 4,ff_ b 4 6,0,0,ff_ b 6 10,(((at' b 10).toNat:Int)==1),b.extract 11 b.size⟩
def PY (s b:ByteArray) (w:Int):aF×Bool:=
  if (1≤w∧w≤8)∧w+11≤s.size then (if AG (C2 (s.extract w.toNat s.size)) b w=s then (C2 (s.extract w.toNat s.size),true) else (WQ,false)) else (WQ,false)
theorem nK (s:ByteArray) (i j:Nat):(s.extract i j).size=min j s.size-i:=by simp
theorem wu (c:UInt8):IntKind.wrap .i64 (c.toNat:Int)=(c.toNat:Int):=by have:=c.toNat_lt;exact bQ (by omega) (by omega)
theorem VW (s b:ByteArray) (w:Int) (hs:s.size≤1048576):Wp (fun k=>nM k s b w) (· =PY s b w):=by
  unfold nM PY
  refine Wp.bind (dM _ _ _) (fun _ e=> ?_);subst e
  simp only [inB,cE,aJ]
  refine Wp.ite (fun h1=> ?_) (fun h1=>Wp.ret (by rw [if_neg (fun h=>h1 h.1)];rfl))
  rw [bQ (by omega) (by omega)]
  refine Wp.ite (fun h2=>Wp.ret (by rw [if_neg (fun h=>by omega)];rfl)) (fun h2=> ?_)
  rw [if_pos ⟨h1,by omega⟩]
  refine Wp.opt (bX (by omega)) ?_
  dsimp only
  rw [Int.toNat_natCast]
  have hsz:(s.extract w.toNat s.size).size=s.size-w.toNat:=by rw [nK];omega
  have hge:11≤(s.extract w.toNat s.size).size:=by omega
  generalize hb:s.extract w.toNat s.size=B at hsz hge⊢
  have key:∀p:aF,Wp (fun k=>(hH k p b w).bind fun r16=>
   bif (!(r16.toList==s.toList)) then some (WQ,false) else some (p,true)) (· =if AG p b w=s then (p,true) else (WQ,false)):=fun p=>by
    refine Wp.bind (JX p b w) (fun _ e=> ?_);subst e
    simp only [cE,oA]
    exact Wp.ite (fun h=>Wp.ret (by rw [if_pos h])) (fun h=>Wp.ret (by rw [if_neg h]))
  have hBs:B.size≤1048576:=by omega
  refine Wp.opt (tH (i:=0) (by omega)) ?_
  refine Wp.opt (tH (i:=1) (by omega)) ?_
  refine Wp.opt (bX (by omega)) ?_
  refine Wp.bind (QB _ (by rw [nK];simp;omega)) (fun _ e=> ?_);subst e
  refine Wp.opt (bX (by omega)) ?_
  refine Wp.bind (QB _ (by rw [nK];simp;omega)) (fun _ e=> ?_);subst e
  simp only [wu,kH]
  refine Wp.ite (fun hk=> ?_) (fun hk=> ?_)
  ·refine Wp.opt (bX (by omega)) ?_
   refine Wp.bind (QB _ (by rw [nK];simp;omega)) (fun _ e=> ?_);subst e
   refine Wp.opt (tH (i:=10) (by omega)) ?_
   refine Wp.step ?_
   simp only [fB,wu]
   have:=key (C2 B)
   unfold C2 at this⊢
   rw [if_pos hk] at this⊢
   exact this
  ·refine Wp.opt (bX (by omega)) ?_
   refine Wp.bind (QB _ (by rw [nK];simp;omega)) (fun _ e=> ?_);subst e
   refine Wp.opt (tH (i:=10) (by omega)) ?_
   refine Wp.opt (bX (by omega)) ?_
   refine Wp.step ?_
   simp only [fB,wu]
   have:=key (C2 B)
   unfold C2 at this⊢
   rw [if_neg hk] at this⊢
   exact this
theorem VI {p:aF} {b s:ByteArray} {w:Int} (h:¬(TK p∧b.size≤30)) (hs:11≤s.size):AG p b w≠s:=by
  unfold AG
  rw [if_neg (fun h'=>h ⟨h'.1,h'.2.2⟩)]
  intro e
  rw [←e] at hs
  simp [sG] at hs
theorem WD (s b:ByteArray) (w:Int) (hs:s.size≤1048576):Wp (fun k=>nD k s b w) (· =PY s b w):=by
  unfold nD PY
  simp only [aJ]
  refine Wp.ite (fun h1=>Wp.ret (by rw [if_neg (fun h=>by omega)];rfl)) (fun h1=> ?_)
  refine Wp.ite (fun h2=>Wp.ret (by rw [if_neg (fun h=>by omega)];rfl)) (fun h2=> ?_)
  refine Wp.ite (fun h3=>Wp.ret ?_) (fun h3=> ?_)
  ·split
   ·rename_i h
    rw [if_neg (VI (fun h'=>by omega) (by omega))];rfl
   ·rfl
  rw [bQ (by omega) (by omega)]
  refine Wp.ite (fun h4=>Wp.ret (by rw [if_neg (fun h=>by omega)];rfl)) (fun h4=> ?_)
  rw [if_pos ⟨by omega,by omega⟩]
  refine Wp.opt (bX (by omega)) ?_
  dsimp only
  rw [Int.toNat_natCast]
  have hsz:(s.extract w.toNat s.size).size=s.size-w.toNat:=by rw [nK];omega
  have hge:11≤(s.extract w.toNat s.size).size:=by omega
  generalize hb:s.extract w.toNat s.size=B at hsz hge⊢
  have key:∀p:aF,Wp (fun k=>(cL k p).bind fun r15=>bif (!r15) then some (WQ,false) else (hJ k p b w).bind fun r16=>
   bif (!(r16.toList==s.toList)) then some (WQ,false) else some (p,true)) (· =if AG p b w=s then (p,true) else (WQ,false)):=fun p=>by
    refine Wp.bind (lN p) (fun _ e=> ?_);subst e
    simp only [cE,aJ]
    refine Wp.ite (fun hf=> ?_) (fun hf=>Wp.ret (by rw [if_neg (VI (fun h'=>hf h'.1) (by omega))]))
    refine Wp.bind (IM p b w) (fun _ e=> ?_);subst e
    simp only [cE,oA]
    exact Wp.ite (fun h=>Wp.ret (by rw [if_pos h])) (fun h=>Wp.ret (by rw [if_neg h]))
  have hBs:B.size≤1048576:=by omega
  refine Wp.opt (tH (i:=0) (by omega)) ?_
  refine Wp.opt (tH (i:=1) (by omega)) ?_
  refine Wp.opt (bX (by omega)) ?_
  refine Wp.bind (YM _ (by rw [nK];simp;omega)) (fun _ e=> ?_);subst e
  refine Wp.opt (bX (by omega)) ?_
  refine Wp.bind (YM _ (by rw [nK];simp;omega)) (fun _ e=> ?_);subst e
  simp only [wu,kH]
  refine Wp.ite (fun hk=> ?_) (fun hk=> ?_)
  ·refine Wp.opt (bX (by omega)) ?_
   refine Wp.bind (YM _ (by rw [nK];simp;omega)) (fun _ e=> ?_);subst e
   refine Wp.opt (tH (i:=10) (by omega)) ?_
   refine Wp.step ?_
   simp only [c6,wu]
   have:=key (C2 B)
   unfold C2 at this⊢
   rw [if_pos hk] at this⊢
   exact this
  ·refine Wp.ite (fun hk2=> ?_) (fun hk2=> ?_)
   ·refine Wp.opt (bX (by omega)) ?_
    refine Wp.bind (YM _ (by rw [nK];simp;omega)) (fun _ e=> ?_);subst e
    refine Wp.opt (tH (i:=10) (by omega)) ?_
    refine Wp.opt (bX (by omega)) ?_
    refine Wp.step ?_
    simp only [c6,wu]
    have:=key (C2 B)
    unfold C2 at this⊢
    rw [if_neg hk] at this⊢
    exact this
   ·refine Wp.step ?_
    simp only [c6,wu]
    have hno:¬TK (C2 B):=fun hf=>by
      have hK:(C2 B).Kind=1∨(C2 B).Kind=2:=by rcases hf.2.2.2 with h | h<;>omega
      unfold C2 at hK
      rw [if_neg hk] at hK
      exact hK.elim hk hk2
    rw [if_neg (VI (fun h=>hno h.1) (by omega))]
    refine Wp.bind (lN _) (fun _ e=> ?_);subst e
    rw [decide_eq_false]
    ·exact Wp.ret rfl
    ·intro hf
     have hK:(((at' B 0).toNat:Int))=1∨(((at' B 0).toNat:Int))=2:=hf.2.2.2.elim (fun h=> .inl h.1) (fun h=> .inr h.1)
     exact hK.elim hk hk2
theorem cl_ {e:aN} (h:VEnd e):VEnd (rQ e).End:=by
  obtain ⟨h1,h2,h3,h4,h5,h6,h7,h8⟩:=h
  have h:VEnd e:=⟨h1,h2,h3,h4,h5,h6,h7,h8⟩
  have hs:=(aH_ e h).1
  have hz:e.Peer=0→dF_ (mH e).1∧cA_ e.Take:=fun hp=>by unfold mH;rw [if_pos hp];exact h7 hp
  unfold rQ
  rw [if_pos h]
  split
  ·rename_i hu
   have nu:∀q:Prop,(e.Up=false→q):=fun q g=>by rw [hu] at g;cases g
   split
   ·exact ⟨h1,h2,h3,⟨by simp,by simp⟩,hs,h6,hz,nu _⟩
   ·refine ⟨h1,h2,h3, ?_,hs,h6,hz,nu _⟩
    show 0≤upS e∧upS e≤1000000
    unfold upS;split<;>omega
  ·exact h
theorem gd_ {e:aN} {p:aF} (h:VEnd e) (hu:e.Up=true) (hf:TK p):VEnd (cU_ e p)∧(cU_ e p).Up=true:=by
  unfold cU_
  split
  ·refine ⟨⟨h.1,h.2.1, ?_,h.2.2.2.1,uY,DG,fun _=>⟨gO_,gQ_⟩,fun g=> ?_⟩,hu⟩
   ·have:=hf.2.1;have:=h.2.2.1
    show 0≤p.Mine∧p.Mine≤1000;omega
   ·change e.Up=false at g;rw [hu] at g;cases g
  ·exact ⟨h,hu⟩
theorem bs_ {e:aN} {p:aF} (h:VEnd e) (hf:TK p) (hm:¬p.Mine<e.Peer):(cU_ e p).Peer=p.Mine:=by
  unfold cU_;split
  ·rfl
  ·omega
theorem ea_ {e:aN} {p:aF} (h:VEnd e) (hu:e.Up=true) (hp:e.Peer≠0):VEnd (TN e p).End:=by
  obtain ⟨h1,h2,h3,h4,h5,h6,h7,h8⟩:=h
  have nu:∀q:Prop,(e.Up=false→q):=fun q g=>by rw [hu] at g;cases g
  unfold TN
  split
  ·split
   ·exact ⟨h1,h2,h3,h4,di_ _ _ _,h6,fun g=>absurd g hp,nu _⟩
   ·exact ⟨h1,h2,h3,h4,h5,e1_ _ _ _,fun g=>absurd g hp,nu _⟩
  ·exact ⟨h1,h2,h3,h4,h5,h6,fun g=>absurd g hp,nu _⟩
theorem er_ {e:aN} (p:aF) (h:VEnd e):VEnd (IF e p).End:=by
  unfold IF
  rw [if_pos h]
  split
  ·rename_i hc
   obtain ⟨g1,g2⟩:=gd_ h hc.1 hc.2.1
   refine ea_ g1 g2 ?_
   rw [bs_ h hc.2.1 hc.2.2.2]
   have:=hc.2.1.2.1;omega
  ·exact h
theorem eZ_ {e:aN} {t:ByteArray} (h:VEnd e) (hc:(rG e t).Code=0):VEnd (rG e t).End∧e.Up=true∧e.Peer≠0∧t.size≤200:=by
  unfold rG at hc⊢
  rw [if_pos h] at hc⊢
  split at hc
  ·rename_i hu
   rw [if_pos hu]
   split at hc
   ·cases hc
   ·rename_i hp
    rw [if_neg hp]
    split at hc
    ·rename_i h0
     rw [if_pos h0]
     obtain ⟨h1,h2,h3,h4,h5,h6,h7,h8⟩:=h
     refine ⟨⟨h1,h2,h3,h4,cE_ _ _,h6,fun g=>absurd g hp,fun g=> ?_⟩,hu,hp, ?_⟩
     ·change e.Up=false at g;rw [hu] at g;cases g
     ·unfold CQ at h0
      split at h0
      ·rename_i hh;exact hh.2
      ·cases h0
    ·rename_i h0;exact absurd hc h0
  ·cases hc
theorem eE_ {e:aN} (h:VEnd e) (hc:(nW e).Code=0):VEnd (nW e).End∧e.Up=true∧e.Peer≠0∧(nW e).Text.size≤200:=by
  unfold nW at hc⊢
  rw [if_pos h] at hc⊢
  split at hc
  ·rename_i hu
   rw [if_pos hu]
   split at hc
   ·rename_i hr
    rw [if_pos hr]
    obtain ⟨h1,h2,h3,h4,h5,h6,h7,h8⟩:=h
    have hp:e.Peer≠0:=fun e0=>by
      have hz:=(h7 e0).2.2.2.2
      unfold C0 at hr
      rw [if_pos h6] at hr
      split at hr
      ·cases hr
      ·rename_i s rs hrr;rw [hrr] at hz;cases hz
    refine ⟨⟨h1,h2,h3,h4,h5,(XJ _).1,fun g=>absurd g hp,fun g=> ?_⟩,hu,hp,(XJ _).2⟩
    change e.Up=false at g;rw [hu] at g;cases g
   ·cases hc
  ·cases hc
theorem QV {e:aN} (h:VEnd e):(rQ e).End.Number=e.Number:=by
  unfold rQ;rw [if_pos h];split
  ·split<;>rfl
  ·rfl
theorem bC_ {e:aN} (p:aF) (h:VEnd e):(IF e p).End.Number=e.Number:=by
  unfold IF;rw [if_pos h];split
  ·unfold TN cU_;repeat' split
   all_goals rfl
  ·rfl
theorem bY_ {e:aN} {t:ByteArray} (h:VEnd e) (hc:(rG e t).Code=0):(rG e t).End.Number=e.Number:=by
  unfold rG at hc⊢
  rw [if_pos h] at hc⊢
  split at hc
  ·rename_i hu;rw [if_pos hu]
   split at hc
   ·cases hc
   ·rename_i hp;rw [if_neg hp]
    split at hc
    ·rename_i h0;rw [if_pos h0]
    ·rename_i h0;exact absurd hc h0
  ·cases hc
theorem aY_ {e:aN} (h:VEnd e) (hc:(nW e).Code=0):(nW e).End.Number=e.Number:=by
  unfold nW at hc⊢
  rw [if_pos h] at hc⊢
  split at hc
  ·rename_i hu;rw [if_pos hu]
   split at hc
   ·rename_i hr;rw [if_pos hr]
   ·cases hc
  ·cases hc
theorem b5_ {e:aN} (h:VEnd e):(OP e).Number=e.Number:=by unfold OP;rw [if_pos h]
theorem aG_ {e:aN} (h:VEnd e):(P8 e).Number=e.Number:=by unfold P8;rw [if_pos h];repeat' split<;>try rfl
theorem DB {e:aN} (h:VEnd e):(rQ e).Out.length≤61:=by
  have h2:=(aH_ e h).2
  unfold rQ;rw [if_pos h];split
  ·split
   ·simp;omega
   ·simp;omega
  ·simp
def as_ (b:ByteArray) (wd to:Int) (p:aF):aE:=⟨to,AG p b wd,AG p b wd⟩
def dK_ (b:ByteArray) (wd to:Int) (out:List aF) (fl:List aE):List aE:=fl++(out.map (as_ b wd to)).take (1000-fl.length)
def eL (n:Int) (l:List aN):aN:=match l with | [e,f]=>if n=1 then e else f | _=>D3
def F9 (n:Int) (x:aN) (l:List aN):List aN:=match l with | [e,f]=>if n=1 then [x,f] else [e,x] | l=>l
def s9 (w:aC):aC:=
  ⟨w.Key,w.Width,[(rQ (eL 1 w.Ends)).End,(rQ (eL 2 w.Ends)).End],dK_ w.Key w.Width 1 (rQ (eL 2 w.Ends)).Out (dK_ w.Key w.Width 2 (rQ (eL 1 w.Ends)).Out w.Flight),w.Forged,w.Given,w.Taken⟩
def oW (w:aC) (p:aE):aC:=
  if (PY p.Bytes w.Key w.Width).2=true then
   ⟨w.Key,w.Width,F9 p.To (IF (eL p.To w.Ends) (PY p.Bytes w.Key w.Width).1).End w.Ends,w.Flight,if¬p.Bytes=p.Sent∧w.Forged=noB then p.Bytes else w.Forged,w.Given,w.Taken⟩
  else w
def LL (w:aC) (n:Int):aC:=
  if w.Given.length+w.Taken.length<400∧(nW (eL n w.Ends)).Code=0 then
   ⟨w.Key,w.Width,F9 n (nW (eL n w.Ends)).End w.Ends,w.Flight,w.Forged,w.Given,w.Taken++[⟨3-n,(eL n w.Ends).Peer,(eL n w.Ends).Life,(nW (eL n w.Ends)).Text⟩]⟩
  else w
def RU (w:aC) (n:Int) (t:ByteArray):aC:=
  if w.Given.length+w.Taken.length<400∧(rG (eL n w.Ends) t).Code=0 then
   ⟨w.Key,w.Width,F9 n (rG (eL n w.Ends) t).End w.Ends,w.Flight,w.Forged,w.Given++[⟨n,(eL n w.Ends).Life,(eL n w.Ends).Peer,t⟩],w.Taken⟩
  else w
def nV (w:aC) (fl:List aE):aC:=⟨w.Key,w.Width,w.Ends,fl,w.Forged,w.Given,w.Taken⟩
def d3_ (w:aC) (n:Int) (x:aN):aC:=⟨w.Key,w.Width,F9 n x w.Ends,w.Flight,w.Forged,w.Given,w.Taken⟩
def cI_ (s:ByteArray) (b c:Int):ByteArray:=mD ((bC s).set b.toNat (vG .u8 ((bC s).getD b.toNat 0) (IntKind.wrap .u8 (c%256))))
def yR (w:aC) (v:bI) (p:aE):aC:=
  if v.Kind=2 then oW (nV w (w.Flight.eraseIdx v.A.toNat)) p
  else if v.Kind=3 then (if w.Flight.length<1000 then nV w (w.Flight++[p]) else w)
  else if v.Kind=4 then nV w (w.Flight.eraseIdx v.A.toNat)
  else if v.Kind=5 then (if (0≤v.B∧v.B<p.Bytes.size)∧0≤v.C then nV w (w.Flight.set v.A.toNat ⟨p.To,p.Sent,cI_ p.Bytes v.B v.C⟩) else w)
  else if v.Kind=6 then (if 0≤v.B∧v.B≤p.Bytes.size then nV w (w.Flight.set v.A.toNat ⟨p.To,p.Sent,p.Bytes.extract 0 v.B.toNat⟩) else w)
  else nV w (w.Flight.set v.A.toNat ⟨3-p.To,p.Sent,p.Bytes⟩)
def BX (w:aC) (v:bI):aC:=
  if v.Kind=8 then d3_ w v.A (OP (eL v.A w.Ends))
  else if v.Kind=9 then d3_ w v.A (P8 (eL v.A w.Ends))
  else if v.Kind=10 then RU w v.A v.Text
  else LL w v.A
def doW (w:aC) (v:bI):aC:=
  if v.Kind=1 then s9 w
  else if 2≤v.Kind∧v.Kind≤7 then (if 0≤v.A then (match w.Flight[v.A.toNat]? with | some p=>yR w v p | none=>w) else w)
  else if (8≤v.Kind∧v.Kind≤11)∧(1≤v.A∧v.A≤2) then BX w v
  else w
def W7:aC:=⟨noB,0,[],[],noB,[],[]⟩
def doM (w:aC) (v:bI):aC:=if aS w then doW w v else W7
theorem pA:∀{l:List aN},GP l→∃e f,l=[e,f]∧VEnd e∧e.Number=1∧VEnd f∧f.Number=2
  | [a,b],h=>⟨a,b,rfl,h.1.1,h.1.2,h.2.1,h.2.2⟩
theorem HK {e f:aN} (h1:VEnd e) (h2:e.Number=1) (h3:VEnd f) (h4:f.Number=2):GP [e,f]:=⟨⟨h1,h2⟩,⟨h3,h4⟩⟩
theorem DT {l:List aN} (h:GP l) {n:Int} (hn:1≤n∧n≤2):VEnd (eL n l)∧(eL n l).Number=n:=by
  obtain ⟨e,f,rfl,h1,h2,h3,h4⟩:=pA h
  unfold eL
  dsimp only
  split
  ·rename_i hh;exact ⟨h1,by omega⟩
  ·exact ⟨h3,by omega⟩
theorem O7 {l:List aN} (h:GP l) {n:Int} (hn:1≤n∧n≤2) {x:aN} (hx:VEnd x) (hx':x.Number=n):GP (F9 n x l):=by
  obtain ⟨e,f,rfl,h1,h2,h3,h4⟩:=pA h
  unfold F9
  dsimp only
  split
  ·rename_i hh;exact HK hx (by omega) h3 h4
  ·exact HK h1 h2 hx (by omega)
theorem G5 {b:ByteArray} {wd to:Int} {out:List aF} {fl:List aE} (h:fl.length≤1000):(dK_ b wd to out fl).length≤1000:=by
  unfold dK_;simp;omega
theorem dw_ {b:ByteArray} {wd to:Int} {out:List aF} {fl:List aE} (h:vY fl) (ht:1≤to∧to≤2):vY (dK_ b wd to out fl):=fun p hp=>by
  unfold dK_ at hp
  simp only [List.mem_append] at hp
  rcases hp with hp | hp
  ·exact h p hp
  ·have:=List.mem_of_mem_take hp
   simp only [List.mem_map] at this
   obtain ⟨q,_,rfl⟩:=this
   have:=ZF q b wd
   exact ⟨ht,by show (AG q b wd).size≤100;omega,by show (AG q b wd).size≤100;omega⟩
theorem D0 {w:aC} (h:aS w):aS (s9 w):=by
  obtain ⟨h1,h2,h3,h4,h5,h6,h7,h8⟩:=h
  obtain ⟨e1,e2⟩:=DT h5 (n:=1) (by omega)
  obtain ⟨f1,f2⟩:=DT h5 (n:=2) (by omega)
  exact ⟨h1,h2,G5 (G5 h3),h4,HK (cl_ e1) ((QV e1).trans e2) (cl_ f1) ((QV f1).trans f2),dw_ (dw_ h6 (by omega)) (by omega),h7,h8⟩
theorem HN {w:aC} (h:aS w) {p:aE} (hp:1≤p.To∧p.To≤2):aS (oW w p):=by
  unfold oW
  split
  ·obtain ⟨h1,h2,h3,h4,h5,h6,h7,h8⟩:=h
   obtain ⟨e1,e2⟩:=DT h5 hp
   exact ⟨h1,h2,h3,h4,O7 h5 hp (er_ _ e1) ((bC_ _ e1).trans e2),h6,h7,h8⟩
  ·exact h
theorem OE {l:List aA} {r:aA} (h:pG l) (hr:fd_ r):pG (l++[r]):=fun x hx=>by
  simp only [List.mem_append,List.mem_singleton] at hx
  rcases hx with hx | rfl
  ·exact h x hx
  ·exact hr
theorem OZ {w:aC} (h:aS w) {n:Int} (hn:1≤n∧n≤2):aS (LL w n):=by
  unfold LL
  split
  ·rename_i hc
   obtain ⟨h1,h2,h3,h4,h5,h6,h7,h8⟩:=h
   obtain ⟨e1,e2⟩:=DT h5 hn
   obtain ⟨g1,g2,g3,g4⟩:=eE_ e1 hc.2
   have hp:=e1.2.2.1
   exact ⟨h1,h2,h3,by simp only [List.length_append,List.length_singleton];omega,O7 h5 hn g1 ((aY_ e1 hc.2).trans e2),h6,h7,OE h8 ⟨by simp only;omega,by simp only;omega,e1.2.1,g4⟩⟩
  ·exact h
theorem eF_ {w:aC} (h:aS w) {n:Int} (hn:1≤n∧n≤2) (t:ByteArray):aS (RU w n t):=by
  unfold RU
  split
  ·rename_i hc
   obtain ⟨h1,h2,h3,h4,h5,h6,h7,h8⟩:=h
   obtain ⟨e1,e2⟩:=DT h5 hn
   obtain ⟨g1,g2,g3,g4⟩:=eZ_ e1 hc.2
   have hp:=e1.2.2.1
   exact ⟨h1,h2,h3,by simp only [List.length_append,List.length_singleton];omega,O7 h5 hn g1 ((bY_ e1 hc.2).trans e2),h6,OE h7 ⟨by simp only;omega,e1.2.1,by simp only;omega,g4⟩,h8⟩
  ·exact h
theorem bg_ {w:aC} (h:aS w) {n:Int} (hn:1≤n∧n≤2) {x:aN} (hx:VEnd x) (hx':x.Number=n):aS (d3_ w n x):=by
  obtain ⟨h1,h2,h3,h4,h5,h6,h7,h8⟩:=h
  exact ⟨h1,h2,h3,h4,O7 h5 hn hx hx',h6,h7,h8⟩
theorem u4 {w:aC} (h:aS w) {fl:List aE} (h1:fl.length≤1000) (h2:vY fl):aS (nV w fl):=by
  obtain ⟨g1,g2,g3,g4,g5,g6,g7,g8⟩:=h
  exact ⟨g1,g2,h1,g4,g5,h2,g7,g8⟩
theorem XB {l:List aE} (h:vY l) (i:Nat):vY (l.eraseIdx i):=fun p hp=>h p (List.mem_of_mem_eraseIdx hp)
theorem ex_ {l:List aE} (h:vY l) (i:Nat) {q:aE} (hq:av_ q):vY (l.set i q):=fun p hp=>by
  rcases List.mem_or_eq_of_mem_set hp with h' | h'
  ·exact h p h'
  ·rw [h'];exact hq
theorem af_ (s:ByteArray) (b c:Int):(cI_ s b c).size=s.size:=by
  unfold cI_;rw [kZ,List.length_set];unfold bC;simp
theorem ev_ {w:aC} (h:aS w) (v:bI):aS (doW w v):=by
  unfold doW
  split
  ·exact D0 h
  ·split
   ·split
    ·split
     ·rename_i p hp
      have hv:av_ p:=h.2.2.2.2.2.1 p (List.mem_of_getElem? hp)
      have h6:=h.2.2.2.2.2.1
      have h3:=h.2.2.1
      have hel:(w.Flight.eraseIdx v.A.toNat).length≤1000:=by have:=List.length_eraseIdx_le w.Flight v.A.toNat;omega
      unfold yR
      split
      ·exact HN (u4 h hel (XB h6 _)) hv.1
      ·split
       ·split
        ·refine u4 h (by simp;omega) (fun q hq=> ?_)
         simp only [List.mem_append,List.mem_singleton] at hq
         rcases hq with hq | rfl
         ·exact h6 q hq
         ·exact hv
        ·exact h
       ·split
        ·exact u4 h hel (XB h6 _)
        ·split
         ·split
          ·exact u4 h (by simp;omega) (ex_ h6 _ ⟨hv.1,hv.2.1,by show (cI_ p.Bytes v.B v.C).size≤100;rw [af_];exact hv.2.2⟩)
          ·exact h
         ·split
          ·split
           ·exact u4 h (by simp;omega) (ex_ h6 _ ⟨hv.1,hv.2.1,by
              show (p.Bytes.extract 0 v.B.toNat).size≤100
              have:=hv.2.2
              rw [nK];omega⟩)
           ·exact h
          ·have hvt:=hv.1
           exact u4 h (by simp;omega) (ex_ h6 _ ⟨by show 1≤3-p.To∧3-p.To≤2;omega,hv.2.1,hv.2.2⟩)
     ·exact h
    ·exact h
   ·split
    ·rename_i hc
     have hn:=hc.2
     obtain ⟨e1,e2⟩:=DT h.2.2.2.2.1 hn
     unfold BX
     split
     ·exact bg_ h hn (e5_ _ e1) ((b5_ e1).trans e2)
     ·split
      ·exact bg_ h hn (eX_ _ e1) ((aG_ e1).trans e2)
      ·split
       ·exact eF_ h hn _
       ·exact OZ h hn
    ·exact h
theorem Y4 {w:aC} (h:aS w) (v:bI):aS (doM w v):=by unfold doM;rw [if_pos h];exact ev_ h v
theorem vH {l:List aN} (h:GP l) {n:Int} (hn:1≤n∧n≤2):idx l (IntKind.wrap .i64 (n-1))=some (eL n l)∧l[Int.toNat (IntKind.wrap .i64 (n-1))]? =some (eL n l)∧∀x,l.set (Int.toNat (IntKind.wrap .i64 (n-1))) x=F9 n x l:=by
  obtain ⟨e,f,rfl,_⟩:=pA h
  rw [bQ (by omega) (by omega)]
  have hc:n=1∨n=2:=by omega
  rcases hc with rfl | rfl
  ·exact ⟨rfl,rfl,fun _=>rfl⟩
  ·exact ⟨rfl,rfl,fun _=>rfl⟩
theorem XK (b:ByteArray) (wd to:Int) (p:aF) (t:List aF) (fl:List aE) (h:fl.length<1000):fl++((p::t).map (as_ b wd to)).take (1000-fl.length)=(fl++[as_ b wd to p])++(t.map (as_ b wd to)).take (1000-(fl++[as_ b wd to p]).length):=by
  rw [List.map_cons,show 1000-fl.length=(1000-(fl.length+1))+1 by omega,List.take_succ_cons]
  simp
theorem X3 (b:ByteArray) (wd to:Int) (t:List aF) (fl:List aE) (h:¬fl.length<1000):fl++(t.map (as_ b wd to)).take (1000-fl.length)=fl:=by
  rw [show 1000-fl.length=0 by omega];simp
theorem eY_ (K Fo:ByteArray) (W:Int) (Gi Ta:List aA) (Es:List aN) (i n i':Int) (hi:0≤i∧i≤1) {Q:aC→Prop}:∀(t pre:List aF) (fl:List aE),(pre++t).length≤1000→fl.length≤1000→
    Wp (fun k=>cR k n (IntKind.wrap .i64 (i'+1)) K W Fo Es (fl++(t.map (as_ K W (2-i))).take (1000-fl.length)) Gi Ta) Q→
    Wp (fun k=>d9 k i n i' ((pre++t).length:Int) (pre.length:Int) K W Fo (pre++t) Es fl Gi Ta) Q
  | [],pre,fl,hl,hf,h=>by
    refine Wp.step ?_
    simp only [d9,List.append_nil]
    simp (disch:=omega) only [aJ,if_neg]
    simpa using h
  | p::t,pre,fl,hl,hf,h=>by
    refine Wp.step ?_
    have hl':=hl
    simp only [List.length_append,List.length_cons] at hl
    simp only [d9]
    simp only [aJ,iE,if_true,bK,j5,Option.bind_some]
    have ih:=fun (fl2:List aE) (h2:fl2.length≤1000) (hh:Wp (fun k=>cR k n (IntKind.wrap .i64 (i'+1)) K W Fo Es (fl2++(t.map (as_ K W (2-i))).take (1000-fl2.length)) Gi Ta) Q)=>eY_ K Fo W Gi Ta Es i n i' hi t (pre++[p]) fl2 (by simpa using hl') h2 hh
    simp only [←cM,←bV] at ih
    refine Wp.ite (fun hc=> ?_) (fun hc=> ?_)
    ·refine Wp.bind (IM p K W) (fun _ q=> ?_);subst q
     rw [bQ (n:=2-i) (by omega) (by omega)]
     refine Wp.opt (bP (by simp;omega)) ?_
     refine Wp.step ?_
     simp only [eW]
     rw [bQ (n:=(pre.length:Int)+1) (by omega) (by omega)]
     refine ih (fl++[as_ K W (2-i) p]) (by simp;omega) ?_
     rw [←XK K W (2-i) p t fl (by omega)];exact h
    ·refine Wp.step ?_
     simp only [eW]
     rw [bQ (n:=(pre.length:Int)+1) (by omega) (by omega)]
     refine ih fl hf ?_
     rw [X3 _ _ _ _ _ (by omega)] at h⊢;exact h
theorem FX (w:aC) (h:aS w):Wp (fun k=>j7 k w) (· =s9 w):=by
  obtain ⟨K,W,Es,Fl,Fo,Gi,Ta⟩:=w
  obtain ⟨h1,h2,h3,h4,h5,h6,h7,h8⟩:=h
  obtain ⟨e,f,he,e1,e2,f1,f2⟩:=pA h5
  dsimp only at he;subst he
  have he1:=DB e1
  have hf1:=DB f1
  unfold j7
  have len2:(([e,f]:List aN).length:Int)=2:=rfl
  have len2':∀x:aN,(([x,f]:List aN).length:Int)=2:=fun _=>rfl
  dsimp only
  rw [len2]
  refine Wp.step ?_
  simp only [cR]
  have i0:∀x y:aN,idx [x,y] 0=some x:=fun _ _=>rfl
  have g0:∀x y:aN,[x,y][Int.toNat 0]? =some x:=fun _ _=>rfl
  have s0:∀x y z:aN,[x,y].set (Int.toNat 0) z=[z,y]:=fun _ _ _=>rfl
  have i1:∀x y:aN,idx [x,y] 1=some y:=fun _ _=>rfl
  have g1:∀x y:aN,[x,y][Int.toNat 1]? =some y:=fun _ _=>rfl
  have s1:∀x y z:aN,[x,y].set (Int.toNat 1) z=[x,z]:=fun _ _ _=>rfl
  simp (disch:=omega) only [aJ,if_pos,i0,g0,Option.bind_some]
  refine Wp.bind (FN e) (fun _ q=> ?_);subst q
  rw [s0]
  refine eY_ K Fo W Gi Ta _ 0 2 0 (by omega) (rQ e).Out [] Fl (by simp;omega) h3 ?_
  rw [bQ (n:=(0:Int)+1) (by omega) (by omega)]
  refine Wp.step ?_
  simp only [cR]
  simp (disch:=omega) only [aJ,if_pos,Int.zero_add,i1,g1,Option.bind_some]
  refine Wp.bind (FN f) (fun _ q=> ?_);subst q
  rw [s1]
  have hpl:=G5 (b:=K) (wd:=W) (to:=2) (out:=(rQ e).Out) (show Fl.length≤1000 from h3)
  refine eY_ K Fo W Gi Ta _ 1 2 1 (by omega) (rQ f).Out [] (dK_ K W 2 (rQ e).Out Fl) (by simp;omega) hpl ?_
  rw [bQ (n:=(1:Int)+1) (by omega) (by omega)]
  refine Wp.step ?_
  simp only [cR]
  simp (disch:=omega) only [aJ,if_neg]
  exact Wp.ret rfl
theorem bk_ (K Fo k1 k2 k3 Op Tx:ByteArray) (W z:Int) (c n:Int) (u:Bool) (li p s:Int) (o:Bool) (b nx:Int) (Gi Ta:List aA) (Es E2:List aN) (F2:List aE) (G2 T2:List aA) (i:Int) (hi:0≤i∧i≤1) {Q:aC→Prop}:∀(t pre:List aF) (fl:List aE),(pre++t).length≤1000→fl.length≤1000→
    Wp (fun k=>dW k (IntKind.wrap .i64 (i+1)) K W Fo k1 z k2 Es (fl++(t.map (as_ K W (2-i))).take (1000-fl.length)) Gi Ta E2 F2 G2 T2) Q→
    Wp (fun k=>jC k i (pre.length:Int) K W Fo k1 z k2 c n u li p s o b nx Op Tx Es fl Gi Ta E2 F2 G2 T2 (pre++t)) Q
  | [],pre,fl,hl,hf,h=>by
    refine Wp.step ?_
    simp only [jC,List.append_nil]
    simp (disch:=omega) only [aJ,if_neg]
    simpa using h
  | q::t,pre,fl,hl,hf,h=>by
    refine Wp.step ?_
    have hl':=hl
    simp only [List.length_append,List.length_cons] at hl
    simp only [jC]
    simp only [aJ,iE,if_true,bK,j5,Option.bind_some]
    have ih:=fun (fl2:List aE) (h2:fl2.length≤1000) (hh:Wp (fun k=>dW k (IntKind.wrap .i64 (i+1)) K W Fo k1 z k2 Es (fl2++(t.map (as_ K W (2-i))).take (1000-fl2.length)) Gi Ta E2 F2 G2 T2) Q)=>bk_ K Fo k1 k2 k3 Op Tx W z c n u li p s o b nx Gi Ta Es E2 F2 G2 T2 i hi t (pre++[q]) fl2 (by simpa using hl') h2 hh
    simp only [←cM,←bV] at ih
    refine Wp.ite (fun hc=> ?_) (fun hc=> ?_)
    ·refine Wp.bind (JX q K W) (fun _ e=> ?_);subst e
     rw [bQ (n:=2-i) (by omega) (by omega)]
     refine Wp.opt (bP (by simp;omega)) ?_
     rw [bQ (n:=(pre.length:Int)+1) (by omega) (by omega)]
     refine ih (fl++[as_ K W (2-i) q]) (by simp;omega) ?_
     rw [←XK K W (2-i) q t fl (by omega)];exact h
    ·rw [X3 _ _ _ _ _ (by omega)] at h;exact h
theorem E1 (w:aC) (h:aS w):Wp (fun k=>rA k w) (· =s9 w):=by
  obtain ⟨K,W,Es,Fl,Fo,Gi,Ta⟩:=w
  obtain ⟨h1,h2,h3,h4,h5,h6,h7,h8⟩:=h
  obtain ⟨e,f,he,e1,e2,f1,f2⟩:=pA h5
  dsimp only at he;subst he
  have he1:=DB e1
  have hf1:=DB f1
  unfold rA
  dsimp only
  refine Wp.step ?_
  simp only [dW]
  have i0:∀x y:aN,idx [x,y] 0=some x:=fun _ _=>rfl
  have g0:∀x y:aN,[x,y][Int.toNat 0]? =some x:=fun _ _=>rfl
  have s0:∀x y z:aN,[x,y].set (Int.toNat 0) z=[z,y]:=fun _ _ _=>rfl
  have i1:∀x y:aN,idx [x,y] 1=some y:=fun _ _=>rfl
  have g1:∀x y:aN,[x,y][Int.toNat 1]? =some y:=fun _ _=>rfl
  have s1:∀x y z:aN,[x,y].set (Int.toNat 1) z=[x,z]:=fun _ _ _=>rfl
  simp (disch:=omega) only [aJ,if_pos,i0,g0,Option.bind_some]
  refine Wp.bind (FI e) (fun _ q=> ?_);subst q
  rw [s0]
  refine bk_ K Fo _ _ noB _ _ W _ _ _ _ _ _ _ _ _ _ Gi Ta _ _ _ _ _ 0 (by omega) (rQ e).Out [] Fl (by simp;omega) h3 ?_
  rw [bQ (n:=(0:Int)+1) (by omega) (by omega)]
  refine Wp.step ?_
  simp only [dW]
  simp (disch:=omega) only [aJ,if_pos,Int.zero_add,i1,g1,Option.bind_some]
  refine Wp.bind (FI f) (fun _ q=> ?_);subst q
  rw [s1]
  have hpl:=G5 (b:=K) (wd:=W) (to:=2) (out:=(rQ e).Out) (show Fl.length≤1000 from h3)
  refine bk_ K Fo _ _ noB _ _ W _ _ _ _ _ _ _ _ _ _ Gi Ta _ _ _ _ _ 1 (by omega) (rQ f).Out [] (dK_ K W 2 (rQ e).Out Fl) (by simp;omega) hpl ?_
  rw [bQ (n:=(1:Int)+1) (by omega) (by omega)]
  refine Wp.step ?_
  simp only [dW]
  simp (disch:=omega) only [aJ,if_neg]
  exact Wp.ret rfl
theorem e7_ (K Fo B Sn By:ByteArray) (W:Int) (p:aE) (q:aF) (Es:List aN) (Fl:List aE) (Gi Ta:List aA) (h5:GP Es) (hp:1≤p.To∧p.To≤2):Wp (fun k=>dL k K W Fo p.To p.Sent p.Bytes q.Kind q.From q.Mine q.Yours q.Next q.Mask q.Seq q.Last q.Part Es Fl Gi Ta) (· =⟨K,W,F9 p.To (IF (eL p.To Es) q).End Es,Fl,Fo,Gi,Ta⟩):=by
  refine Wp.step ?_
  simp only [dL]
  obtain ⟨a1,a2,a3⟩:=vH h5 hp
  simp only [a1,a2,a3,Option.bind_some]
  refine Wp.bind (TW _ _) (fun _ e=> ?_);subst e
  exact Wp.ret rfl
theorem BS (w:aC) (h:aS w) (p:aE) (hp:1≤p.To∧p.To≤2) (hs:p.Bytes.size≤100):Wp (fun k=>fV k w p) (· =oW w p):=by
  obtain ⟨K,W,Es,Fl,Fo,Gi,Ta⟩:=w
  have h5:=h.2.2.2.2.1
  unfold fV oW
  refine Wp.bind (WD p.Bytes K W (by omega)) (fun _ e=> ?_);subst e
  dsimp only
  simp only [cE]
  refine Wp.bif (fun hr=> ?_) (fun hr=>Wp.ret (by rw [if_neg (by simp [hr])]))
  rw [if_pos hr]
  simp only [oA]
  refine Wp.ite (fun hb=> ?_) (fun hb=> ?_)
  ·refine (e7_ K Fo noB noB noB W p _ Es Fl Gi Ta h5 hp).mono fun r hr=> ?_
   rw [hr,if_neg (by simp [hb])]
  ·refine Wp.ite (fun hf=> ?_) (fun hf=> ?_)
   ·refine (e7_ K p.Bytes noB noB noB W p _ Es Fl Gi Ta h5 hp).mono fun r hr=> ?_
    rw [hr,if_pos ⟨hb,hf⟩]
   ·refine (e7_ K Fo noB noB noB W p _ Es Fl Gi Ta h5 hp).mono fun r hr=> ?_
    rw [hr,if_neg (fun g=>hf g.2)]
theorem YJ (l:List aE) (i:Nat) (h:i<l.length):l.take i++l.drop (i+1)=l.eraseIdx i:=(List.eraseIdx_eq_take_drop_succ l i).symm
theorem KA {α:Type} (l:List α) (i:Nat):iA l 0 i=l.take i:=by simp [iA]
theorem xH {α:Type} (l:List α) (i:Nat):iA l i l.length=l.drop i:=by simp [iA]
theorem EH (l:List aE) (i:Nat) (h:i<l.length) (hl:l.length≤1000):Wp (fun k=>jH k l (i:Int)) (· =l.eraseIdx i):=by
  unfold jH
  refine Wp.opt (bX ⟨by omega,by omega,by omega⟩) ?_
  dsimp only
  rw [Int.toNat_natCast,show Int.toNat 0=0 from rfl,KA]
  refine Wp.opt (bP (by simp;omega)) ?_
  rw [bQ (by omega) (by omega)]
  refine Wp.opt (bX ⟨by omega,by omega,by omega⟩) ?_
  dsimp only
  rw [Int.toNat_natCast,show Int.toNat ((i:Int)+1)=i+1 by omega,xH]
  refine Wp.opt (bP (by simp;omega)) ?_
  refine Wp.ret ?_
  rw [←YJ l i h];simp
theorem eB_ (K Fo k1 k2:ByteArray) (W z:Int) (p:aE) (q:aF) (Es E2:List aN) (Fl F2:List aE) (Gi Ta G2 T2:List aA) (h5:GP Es) (hp:1≤p.To∧p.To≤2):Wp (fun k=>gZ k K W Fo k1 z k2 p.To p.Sent p.Bytes q.Kind q.From q.Mine q.Yours q.Next q.Mask q.Seq q.Last q.Part Es Fl Gi Ta E2 F2 G2 T2) (· =⟨K,W,F9 p.To (IF (eL p.To Es) q).End Es,Fl,Fo,Gi,Ta⟩):=by
  refine Wp.step ?_
  simp only [gZ]
  obtain ⟨a1,a2,a3⟩:=vH h5 hp
  simp only [a1,a2,a3,Option.bind_some]
  refine Wp.bind (R4 _ _) (fun _ e=> ?_);subst e
  exact Wp.ret rfl
theorem DA (w:aC) (h:aS w) (i:Nat) {p:aE} (hi:w.Flight[i]? =some p):Wp (fun k=>oU k w (i:Int)) (· =oW (nV w (w.Flight.eraseIdx i)) p):=by
  have hv:av_ p:=h.2.2.2.2.2.1 p (List.mem_of_getElem? hi)
  have hlt:=(List.getElem?_eq_some_iff.mp hi).1
  obtain ⟨K,W,Es,Fl,Fo,Gi,Ta⟩:=w
  have h5:=h.2.2.2.2.1
  have h3:=h.2.2.1
  dsimp only at hi hlt h3 h5
  unfold oU oW nV
  dsimp only
  have e1:idx Fl (i:Int)=some p:=by rw [kB];exact hi
  have e2:Fl[Int.toNat (i:Int)]? =some p:=by rw [Int.toNat_natCast];exact hi
  simp only [e1,e2,Option.bind_some]
  refine Wp.bind (EH Fl i hlt h3) (fun _ e=> ?_);subst e
  refine Wp.bind (VW p.Bytes K W (by have:=hv.2.2;omega)) (fun _ e=> ?_);subst e
  simp only [cE]
  refine Wp.bif (fun hr=> ?_) (fun hr=>Wp.ret (by rw [if_neg (by simp [hr])]))
  rw [if_pos hr]
  simp only [oA]
  refine Wp.ite (fun hb=> ?_) (fun hb=> ?_)
  ·refine (eB_ K Fo _ _ W _ p _ Es _ _ _ Gi Ta _ _ h5 hv.1).mono fun r hr=> ?_
   rw [hr,if_neg (by simp [hb])]
  ·refine Wp.ite (fun hf=> ?_) (fun hf=> ?_)
   ·refine (eB_ K p.Bytes _ _ W _ p _ Es _ _ _ Gi Ta _ _ h5 hv.1).mono fun r hr=> ?_
    rw [hr,if_pos ⟨hb,hf⟩]
   ·refine (eB_ K Fo _ _ W _ p _ Es _ _ _ Gi Ta _ _ h5 hv.1).mono fun r hr=> ?_
    rw [hr,if_neg (fun g=>hf g.2)]
theorem XG {a b:Nat} (h:a+b≤400):IntKind.wrap .i64 ((a:Int)+(b:Int))=((a+b:Nat):Int):=by rw [bQ (by omega) (by omega)];omega
theorem FK (w:aC) (h:aS w) (n:Int) (hn:1≤n∧n≤2):Wp (fun k=>j6 k w n) (· =LL w n):=by
  obtain ⟨K,W,Es,Fl,Fo,Gi,Ta⟩:=w
  have h5:=h.2.2.2.2.1
  have h4:=h.2.2.2.1
  dsimp only at h4 h5
  unfold j6 jX LL
  dsimp only
  simp only [Option.bind_some,XG h4,aJ]
  refine Wp.ite (fun hc=>Wp.ret (by rw [if_neg (by omega)])) (fun hc=> ?_)
  obtain ⟨a1,a2,a3⟩:=vH h5 hn
  simp only [a1,a2,a3,Option.bind_some]
  refine Wp.bind (FA _) (fun _ e=> ?_);subst e
  simp only [kH]
  refine Wp.ite (fun h0=> ?_) (fun h0=>Wp.ret (by rw [if_neg (fun g=>h0 g.2)]))
  rw [bQ (n:=3-n) (by omega) (by omega)]
  refine Wp.opt (bP (by simp;omega)) ?_
  exact Wp.ret (by rw [if_pos ⟨by omega,h0⟩])
theorem F5 (K Fo a c:ByteArray) (W b:Int) (Es:List aN) (Fl:List aE) (Gi Ta:List aA) (E2:List aN) (F2:List aE) (G2 T2:List aA):Wp (fun k=>cK k K W Fo a b c Es Fl Gi Ta E2 F2 G2 T2) (· =⟨K,W,Es,Fl,Fo,Gi,Ta⟩):=by
  refine Wp.step ?_
  simp only [cK]
  exact Wp.ret rfl
theorem d0_ (K Fo a c:ByteArray) (W b:Int) (Es:List aN) (Fl:List aE) (Gi Ta:List aA) (E2:List aN) (F2:List aE) (G2 T2:List aA):Wp (fun k=>gX k K W Fo a b c Es Fl Gi Ta E2 F2 G2 T2) (· =⟨K,W,Es,Fl,Fo,Gi,Ta⟩):=by
  refine Wp.step ?_
  simp only [gX]
  exact Wp.ret rfl
theorem HZ (K Fo a c:ByteArray) (W b:Int) (Es:List aN) (Fl:List aE) (Gi Ta:List aA) (E2:List aN) (F2:List aE) (G2 T2:List aA):Wp (fun k=>aT k a b c K W Fo E2 F2 G2 T2 Es Fl Gi Ta) (· =⟨K,W,Es,Fl,Fo,Gi,Ta⟩):=by
  refine Wp.step ?_
  simp only [aT]
  exact Wp.ret rfl
theorem dt_ {α:Type} {l:List α} {i:Nat} {p:α} (h:l[i]? =some p):l.set i p=l:=by
  obtain ⟨h1,h2⟩:=List.getElem?_eq_some_iff.mp h
  subst h2;exact List.set_getElem_self h1
theorem N0 (w:aC) (h:aS w) (v:bI) (hk:8≤v.Kind∧v.Kind≤11) (hn:1≤v.A∧v.A≤2):Wp (fun k=>qP k w v) (· =BX w v):=by
  obtain ⟨K,W,Es,Fl,Fo,Gi,Ta⟩:=w
  have h5:=h.2.2.2.2.1
  have h4:=h.2.2.2.1
  dsimp only at h4 h5
  obtain ⟨a1,a2,a3⟩:=vH h5 hn
  unfold qP BX
  dsimp only
  simp only [a1,a2,a3,Option.bind_some,kH]
  refine Wp.ite (fun e=> ?_) (fun e=> ?_)
  ·refine Wp.bind (UM _) (fun _ e'=> ?_);subst e'
   exact (F5 ..).mono fun r hr=>by rw [hr,if_pos e];rfl
  rw [if_neg e]
  refine Wp.ite (fun e=> ?_) (fun e=> ?_)
  ·refine Wp.bind (V7 _) (fun _ e'=> ?_);subst e'
   exact (F5 ..).mono fun r hr=>by rw [hr,if_pos e];rfl
  rw [if_neg e]
  refine Wp.ite (fun e=> ?_) (fun e=> ?_)
  ·rw [if_pos e]
   refine Wp.bind (F0 _ _) (fun _ e'=> ?_);subst e'
   simp only [XG h4,aJ]
   unfold RU
   dsimp only
   refine Wp.ite (fun h0=> ?_) (fun h0=> ?_)
   ·refine Wp.ite (fun h1=> ?_) (fun h1=> ?_)
    ·refine Wp.opt (bP (by simp;omega)) ?_
     exact (F5 ..).mono fun r hr=>by rw [hr,if_pos ⟨by omega,h0⟩]
    ·exact (F5 ..).mono fun r hr=>by rw [hr,if_neg (fun g=>by omega)]
   ·exact (F5 ..).mono fun r hr=>by rw [hr,if_neg (fun g=>h0 g.2)]
  rw [if_neg e]
  refine Wp.ite (fun e=> ?_) (fun e=>by omega)
  refine Wp.bind (FB _) (fun _ e'=> ?_);subst e'
  simp only [XG h4,aJ]
  unfold LL
  dsimp only
  refine Wp.ite (fun h0=> ?_) (fun h0=> ?_)
  ·refine Wp.ite (fun h1=> ?_) (fun h1=> ?_)
   ·rw [bQ (n:=3-v.A) (by omega) (by omega)]
    refine Wp.opt (bP (by simp;omega)) ?_
    exact (F5 ..).mono fun r hr=>by rw [hr,if_pos ⟨by omega,h0⟩]
   ·exact (F5 ..).mono fun r hr=>by rw [hr,if_neg (fun g=>by omega)]
  ·exact (F5 ..).mono fun r hr=>by rw [hr,if_neg (fun g=>h0 g.2)]
theorem EW (K Fo a c Tx:ByteArray) (W b Kd A B C To:Int) (Sn By:ByteArray) (Es:List aN) (Fl:List aE) (Gi Ta:List aA) (E2:List aN) (F2:List aE) (G2 T2:List aA) {p:aE} (h1:idx Fl A=some p) (h2:Fl[Int.toNat A]? =some p):Wp (fun k=>bO k K W Fo Kd A B C Tx a b c To Sn By Es Fl Gi Ta E2 F2 G2 T2) (· =⟨K,W,Es,Fl.set A.toNat ⟨To,Sn,By⟩,Fo,Gi,Ta⟩):=by
  refine Wp.step ?_
  simp only [bO,h1,h2,Option.bind_some]
  exact Wp.ret rfl
theorem XY {s:ByteArray} {b:Int} (h:0≤b∧b<s.size):idx (bC s) b=some ((bC s).getD b.toNat 0)∧(bC s)[b.toNat]? =some ((bC s).getD b.toNat 0):=by
  have hl:b.toNat<(bC s).length:=by
    have:(bC s).length=s.size:=by unfold bC;rw [List.length_map,Array.length_toList];rfl
    omega
  have e:(bC s)[b.toNat]? =some ((bC s).getD b.toNat 0):=by rw [List.getD_eq_getElem?_getD,List.getElem?_eq_getElem hl];rfl
  refine ⟨?_,e⟩
  have:=kB (bC s) b.toNat
  rw [Int.toNat_of_nonneg h.1] at this
  rw [this,e]
theorem PQ (w:aC) (h:aS w) (v:bI) (hk:2≤v.Kind∧v.Kind≤7) (h0:0≤v.A) {p:aE} (hp:w.Flight[v.A.toNat]? =some p):Wp (fun k=>qB k w v) (· =yR w v p):=by
  have hv:av_ p:=h.2.2.2.2.2.1 p (List.mem_of_getElem? hp)
  have hlt:=(List.getElem?_eq_some_iff.mp hp).1
  have hb:=DA w h v.A.toNat hp
  have hwo:=EH w.Flight v.A.toNat hlt h.2.2.1
  have hix:idx w.Flight v.A=some p:=by have:=kB w.Flight v.A.toNat;rw [Int.toNat_of_nonneg h0] at this;rw [this,hp]
  rw [Int.toNat_of_nonneg h0] at hb hwo
  obtain ⟨K,W,Es,Fl,Fo,Gi,Ta⟩:=w
  have h3:=h.2.2.1
  dsimp only at hp hlt h3 hwo hix
  unfold qB yR
  dsimp only
  simp only [hix,hp,Option.bind_some,kH]
  refine Wp.ite (fun e=> ?_) (fun e=> ?_)
  ·refine Wp.bind hb (fun _ e'=> ?_);subst e'
   exact Wp.ret (by rw [if_pos e])
  rw [if_neg e]
  refine Wp.ite (fun e4=> ?_) (fun e4=> ?_)
  ·refine Wp.bind hwo (fun _ e'=> ?_);subst e'
   exact Wp.ret (by rw [if_neg (by omega),if_pos e4];rfl)
  refine Wp.ite (fun e=> ?_) (fun e=> ?_)
  ·rw [if_pos e]
   refine Wp.dec (fun hl=> ?_) (fun hl=> ?_)
   ·refine Wp.opt (bP (by simp;omega)) ?_
    exact (d0_ ..).mono fun r hr=>by rw [hr,if_pos (by omega)];rfl
   ·exact (d0_ ..).mono fun r hr=>by rw [hr,if_neg (by omega)]
  rw [if_neg e,if_neg e4]
  have same:Fl.set v.A.toNat ⟨p.To,p.Sent,p.Bytes⟩=Fl:=dt_ hp
  refine Wp.ite (fun e=> ?_) (fun e=> ?_)
  ·rw [if_pos e]
   refine Wp.dec (fun h1=> ?_) (fun h1=> ?_)
   ·refine Wp.dec (fun h2=> ?_) (fun h2=> ?_)
    ·refine Wp.dec (fun h3=> ?_) (fun h3=> ?_)
     ·obtain ⟨b1,b2⟩:=XY (s:=p.Bytes) (b:=v.B) ⟨h1,h2⟩
      simp only [b1,b2,Option.bind_some]
      refine Wp.opt (kW h3 (by omega)) ?_
      exact (EW (h1:=hix) (h2:=hp) ..).mono fun r hr=>by rw [hr,if_pos ⟨⟨h1,h2⟩,h3⟩];rfl
     ·exact (EW (h1:=hix) (h2:=hp) ..).mono fun r hr=>by rw [hr,if_neg (fun g=>h3 g.2),same]
    ·exact (EW (h1:=hix) (h2:=hp) ..).mono fun r hr=>by rw [hr,if_neg (fun g=>h2 g.1.2),same]
   ·exact (EW (h1:=hix) (h2:=hp) ..).mono fun r hr=>by rw [hr,if_neg (fun g=>h1 g.1.1),same]
  rw [if_neg e]
  refine Wp.ite (fun e=> ?_) (fun e=> ?_)
  ·rw [if_pos e]
   refine Wp.dec (fun h1=> ?_) (fun h1=> ?_)
   ·refine Wp.dec (fun h2=> ?_) (fun h2=> ?_)
    ·refine Wp.opt (bX ⟨by omega,h1,h2⟩) ?_
     exact (EW (h1:=hix) (h2:=hp) ..).mono fun r hr=>by rw [hr,if_pos ⟨h1,h2⟩];rfl
    ·exact (EW (h1:=hix) (h2:=hp) ..).mono fun r hr=>by rw [hr,if_neg (fun g=>h2 g.2),same]
   ·exact (EW (h1:=hix) (h2:=hp) ..).mono fun r hr=>by rw [hr,if_neg (fun g=>h1 g.1),same]
  rw [if_neg e]
  refine Wp.ite (fun e=> ?_) (fun e=>by omega)
  have:=hv.1
  exact (EW (h1:=hix) (h2:=hp) ..).mono fun r hr=>by rw [hr,bQ (n:=3-p.To) (by omega) (by omega)];rfl
theorem VD {w:aC} {v:bI} {p:aE} (hk:2≤v.Kind∧v.Kind≤7) (h0:0≤v.A) (hp:w.Flight[v.A.toNat]? =some p):doW w v=yR w v p:=by
  unfold doW;rw [if_neg (by omega),if_pos hk,if_pos h0,hp]
theorem AU {w:aC} {v:bI} (hk:2≤v.Kind∧v.Kind≤7) (h0:¬(0≤v.A∧v.A<w.Flight.length)):doW w v=w:=by
  unfold doW;rw [if_neg (by omega),if_pos hk]
  split
  ·rename_i h;rw [List.getElem?_eq_none (by omega)]
  ·rfl
theorem bU_ {w:aC} {v:bI} (hk:8≤v.Kind∧v.Kind≤11) (h0:1≤v.A∧v.A≤2):doW w v=BX w v:=by
  unfold doW;rw [if_neg (by omega),if_neg (by omega),if_pos ⟨hk,h0⟩]
theorem HJ {w:aC} {v:bI} (hk:¬(1≤v.Kind∧v.Kind≤11)∨(8≤v.Kind∧¬(1≤v.A∧v.A≤2))):doW w v=w:=by
  unfold doW;rw [if_neg (by omega),if_neg (by omega),if_neg (by omega)]
theorem Y5 (w:aC) (h:aS w) (v:bI):Wp (fun k=>CA k w v) (· =doW w v):=by
  have h3:=h.2.2.1
  unfold CA
  simp only [kH]
  refine Wp.ite (fun e=> ?_) (fun e=> ?_)
  ·refine Wp.bind (E1 w h) (fun _ e'=> ?_);subst e'
   exact Wp.ret (by unfold doW;rw [if_pos e])
  refine Wp.bind (dM _ _ _) (fun _ e'=> ?_);subst e'
  refine Wp.bif (fun hb=> ?_) (fun hb=> ?_)
  ·simp only [Bool.and_eq_true,decide_eq_true_eq] at hb
   refine Wp.bind (dM _ _ _) (fun _ e'=> ?_);subst e'
   rw [bQ (n:=(w.Flight.length:Int)-1) (by omega) (by omega)]
   refine Wp.bif (fun ha=> ?_) (fun ha=> ?_)
   ·simp only [Bool.and_eq_true,decide_eq_true_eq] at ha
    have hg:w.Flight[v.A.toNat]? =some (w.Flight[v.A.toNat]'(by omega)):=List.getElem?_eq_getElem (by omega)
    refine Wp.bind (PQ w h v hb ha.1 hg) (fun _ e'=> ?_);subst e'
    exact Wp.ret (VD hb ha.1 hg).symm
   ·simp only [Bool.and_eq_false_iff,decide_eq_false_iff_not] at ha
    refine Wp.bind (dM _ _ _) (fun _ e'=> ?_);subst e'
    refine Wp.bif (fun h8=> ?_) (fun h8=>Wp.ret (AU hb (by omega)).symm)
    simp only [Bool.and_eq_true,decide_eq_true_eq] at h8
    omega
  ·simp only [Bool.and_eq_false_iff,decide_eq_false_iff_not] at hb
   refine Wp.bind (dM _ _ _) (fun _ e'=> ?_);subst e'
   refine Wp.bif (fun h8=> ?_) (fun h8=> ?_)
   ·simp only [Bool.and_eq_true,decide_eq_true_eq] at h8
    refine Wp.bind (dM _ _ _) (fun _ e'=> ?_);subst e'
    refine Wp.bif (fun ha=> ?_) (fun ha=> ?_)
    ·simp only [Bool.and_eq_true,decide_eq_true_eq] at ha
     refine Wp.bind (N0 w h v h8 ha) (fun _ e'=> ?_);subst e'
     exact Wp.ret (bU_ h8 ha).symm
    ·simp only [Bool.and_eq_false_iff,decide_eq_false_iff_not] at ha
     exact Wp.ret (HJ (.inr ⟨h8.1,by omega⟩)).symm
   ·simp only [Bool.and_eq_false_iff,decide_eq_false_iff_not] at h8
    exact Wp.ret (HJ (.inl (by omega))).symm
theorem RF (K Fo K' Fo' a c:ByteArray) (W W' b:Int) (Fl Fl':List aE) (Gi Ta Gi' Ta':List aA) (E2:List aN) (F2:List aE) (G2 T2:List aA) (hf:Fl.length≤1000) (hg:Gi.length≤1000) (ht:Ta.length≤1000):∀(t pre:List aN),(pre++t).length≤1000→(∀e∈t,VEnd e)→
    Wp (fun k=>jF k (pre.length:Int) K W (pre++t) Fl Fo Gi Ta a b c K' W' Fl' Fo' Gi' Ta' E2 F2 G2 T2 pre) (· =⟨K',W',pre++t,Fl,Fo',Gi,Ta⟩)
  | [],pre,hl,hv=>by
    refine Wp.step ?_
    simp only [jF]
    simp only [List.append_nil] at hl⊢
    simp (disch:=omega) only [aJ,if_neg]
    refine Wp.opt (bP (by simp;omega)) ?_
    refine Wp.opt (bP (by simp;omega)) ?_
    refine Wp.opt (bP (by simp;omega)) ?_
    exact Wp.ret (by simp)
  | e::t,pre,hl,hv=>by
    refine Wp.step ?_
    simp only [jF]
    simp only [aJ]
    simp only [List.length_append,List.length_cons] at hl
    refine Wp.ite (fun _=> ?_) (fun hx=>absurd (by simp;omega) hx)
    simp only [bK,Option.bind_some]
    refine Wp.bind (oV e (hv e (by simp))) (fun _ e'=> ?_);have e'':=e'.symm;subst e''
    refine Wp.opt (bP (by simp;omega)) ?_
    rw [bQ (n:=(pre.length:Int)+1) (by omega) (by omega)]
    have:=RF K Fo K' Fo' a c W W' b Fl Fl' Gi Ta Gi' Ta' E2 F2 G2 T2 hf hg ht t (pre++[e]) (by simp;omega) (fun x hx=>hv x (by simp [hx]))
    simpa using this
theorem sH (w:aC) (h:aS w):Wp (fun k=>iL k w) (· =w):=by
  obtain ⟨K,W,Es,Fl,Fo,Gi,Ta⟩:=w
  have h5:=h.2.2.2.2.1
  have h4:=h.2.2.2.1
  have h3:=h.2.2.1
  dsimp only at h3 h4 h5
  obtain ⟨e,f,rfl,a1,_,a2,_⟩:=pA h5
  unfold iL
  have:=RF K Fo K Fo noB noB W W 0 Fl Fl Gi Ta Gi Ta [] [] [] [] (by omega) (by omega) (by omega) [e,f] [] (by simp) (by simp [a1,a2])
  simpa using this
theorem FZ (w:aC) (h:aS w):Wp (fun k=>lQ k w) (· =w):=by
  obtain ⟨K,W,Es,Fl,Fo,Gi,Ta⟩:=w
  have h5:=h.2.2.2.2.1
  have h4:=h.2.2.2.1
  have h3:=h.2.2.1
  dsimp only at h3 h4 h5
  obtain ⟨e,f,rfl,a1,_,a2,_⟩:=pA h5
  unfold lQ
  refine Wp.opt (bP (by simp)) ?_
  refine Wp.step ?_
  simp only [eS]
  simp only [List.nil_append,List.length_cons,List.length_nil,aJ]
  refine Wp.ite (fun _=> ?_) (fun hx=>by omega)
  refine Wp.opt (x:=e) rfl ?_
  refine Wp.opt (x:=e) rfl ?_
  refine Wp.bind (mN e a1) (fun _ e'=> ?_);have e'':=e'.symm;subst e''
  refine Wp.opt (x:=e) rfl ?_
  refine Wp.opt (x:=e) rfl ?_
  rw [show IntKind.wrap .i64 (0+1)=1 by rfl]
  refine Wp.step ?_
  simp only [eS,aJ]
  refine Wp.ite (fun _=> ?_) (fun hx=>by omega)
  refine Wp.opt (x:=f) rfl ?_
  refine Wp.opt (x:=f) rfl ?_
  refine Wp.bind (mN f a2) (fun _ e'=> ?_);have e'':=e'.symm;subst e''
  refine Wp.opt (x:=f) rfl ?_
  refine Wp.opt (x:=f) rfl ?_
  rw [show IntKind.wrap .i64 (1+1)=2 by rfl]
  refine Wp.step ?_
  simp only [eS,aJ]
  refine Wp.ite (fun hx=>by omega) (fun _=> ?_)
  refine Wp.opt (bP (by simp;omega)) ?_
  refine Wp.opt (bP (by simp;omega)) ?_
  refine Wp.opt (bP (by simp;omega)) ?_
  exact Wp.ret (by rfl)
theorem JV (w:aC) (hb:w.Given.length≤1048576∧w.Taken.length≤1048576) (v:bI):Wp (fun k=>uU k w v) (· =doM w v):=by
  unfold uU doM
  refine Wp.bind (kI w hb) (fun _ e=> ?_);subst e
  refine Wp.not (fun h=> ?_) (fun h=> ?_)
  ·exact Wp.ret (by rw [if_neg (of_decide_eq_false h)];rfl)
  ·have hv:=of_decide_eq_true h
   rw [if_pos hv]
   refine Wp.bind (sH w hv) (fun _ e=> ?_);have e'':=e.symm;subst e''
   refine Wp.bind (Y5 w hv v) (fun _ e=> ?_);subst e
   refine Wp.bind (sH _ (ev_ hv v)) (fun _ e=> ?_);subst e
   exact Wp.ret rfl
theorem mZ {R:Type} (x:Option R):Km.both x x=x:=by unfold Km.both;rw [if_pos rfl]
theorem WJ {e:aN} {t:ByteArray} (hc:(rG e t).Code=0):(rG e t).End.Life=e.Life∧(rG e t).End.Peer=e.Peer:=by
  unfold rG at hc⊢
  split
  ·rename_i h1;rw [if_pos h1] at hc
   split
   ·rename_i h2;rw [if_pos h2] at hc
    split
    ·rename_i h3;rw [if_pos h3] at hc;cases hc
    ·rename_i h3;rw [if_neg h3] at hc
     split
     ·exact ⟨rfl,rfl⟩
     ·rename_i h4;rw [if_neg h4] at hc;exact absurd hc h4
   ·rename_i h2;rw [if_neg h2] at hc;cases hc
  ·rename_i h1;rw [if_neg h1] at hc;cases hc
section
variable (K Fo t1 t2 Tx:ByteArray) (W z Kd A B C:Int) (Es:List aN) (Fl:List aE) (Gi Ta:List aA) (E2:List aN) (F2:List aE) (G2 T2:List aA)
theorem aP_ (h:aS ⟨K,W,Es,Fl,Fo,Gi,Ta⟩) (hk:Kd=2∨Kd=4):Wp (fun k=>rI k (decide (0≤A∧A<(Fl.length:Int))) Kd A B C Tx t1 z t2 K W Fo E2 F2 G2 T2 Es Fl Gi Ta) (· =doW ⟨K,W,Es,Fl,Fo,Gi,Ta⟩ ⟨Kd,A,B,C,Tx⟩):=by
  have h3:=h.2.2.1
  dsimp only at h3
  refine Wp.step ?_
  simp only [rI]
  refine Wp.dec (fun hx=> ?_) (fun hx=> ?_)
  ·have hg:Fl[A.toNat]? =some (Fl[A.toNat]'(by omega)):=List.getElem?_eq_getElem (by omega)
   generalize Fl[A.toNat]'(by omega)=p at hg
   have hv:av_ p:=h.2.2.2.2.2.1 p (List.mem_of_getElem? hg)
   have hix:idx Fl A=some p:=by have:=kB Fl A.toNat;rw [Int.toNat_of_nonneg hx.1] at this;rw [this,hg]
   simp only [hix,hg,Option.bind_some,if_true]
   refine Wp.opt (bX ⟨by omega,by omega,by omega⟩) ?_
   rw [bQ (n:=A+1) (by omega) (by omega)]
   refine Wp.opt (bX ⟨by omega,by omega,by omega⟩) ?_
   dsimp only
   rw [show Int.toNat 0=0 from rfl,KA,show Int.toNat (A+1)=A.toNat+1 by omega,Int.toNat_natCast,xH]
   refine Wp.opt (bP (by simp;omega)) ?_
   rw [YJ Fl A.toNat (by omega),VD (p:=p) (by dsimp only;omega) hx.1 hg]
   unfold yR
   dsimp only
   simp only [kH]
   refine Wp.ite (fun e=> ?_) (fun e=> ?_)
   ·rw [if_pos e]
    refine Wp.bind (BS ⟨K,W,Es,Fl.eraseIdx A.toNat,Fo,Gi,Ta⟩ (u4 h (by have:=List.length_eraseIdx_le Fl A.toNat;omega) (XB h.2.2.2.2.2.1 _)) p hv.1 (by have:=hv.2.2;omega)) (fun r e'=> ?_)
    exact (HZ ..).mono fun x hr=>by rw [hr,e'];rfl
   ·rw [if_neg e,if_neg (by omega),if_pos (by omega)]
    exact (HZ ..).mono fun x hr=>by rw [hr];rfl
  ·exact (HZ ..).mono fun x hr=>by rw [hr,AU (by dsimp only;omega) hx]
theorem eL_ (h:aS ⟨K,W,Es,Fl,Fo,Gi,Ta⟩) (hk:Kd≠1∧Kd≠2∧Kd≠4):Wp (fun k=>vD k (decide (1≤A∧A≤2)) (decide (0≤A∧A<(Fl.length:Int))) Kd Kd A B C Tx t1 z t2 K W Fo E2 F2 G2 T2 Es Fl Gi Ta) (· =doW ⟨K,W,Es,Fl,Fo,Gi,Ta⟩ ⟨Kd,A,B,C,Tx⟩):=by
  have h3:=h.2.2.1
  have h4:=h.2.2.2.1
  have h5:=h.2.2.2.2.1
  dsimp only at h3 h4 h5
  have none_ok:∀(Q:Prop),(1≤Kd→Kd≤11→(8≤Kd∧¬(1≤A∧A≤2))∨(Kd≤7∧¬(0≤A∧A<(Fl.length:Int))))→Wp (fun k=>aT k t1 z t2 K W Fo E2 F2 G2 T2 Es Fl Gi Ta) (· =doW ⟨K,W,Es,Fl,Fo,Gi,Ta⟩ ⟨Kd,A,B,C,Tx⟩):=fun _ hq=>by
    refine (HZ ..).mono fun x hr=> ?_
    rw [hr]
    by_cases h1:1≤Kd∧Kd≤11
    ·rcases hq h1.1 h1.2 with ⟨h8,hn⟩ | ⟨h7,hn⟩
     ·rw [HJ (.inr ⟨h8,hn⟩)]
     ·rw [AU (by dsimp only;omega) hn]
    ·rw [HJ (.inl h1)]
  have par:∀p,Fl[A.toNat]? =some p→idx Fl A=some p→2≤Kd∧Kd≤7→0≤A→∀y,yR ⟨K,W,Es,Fl,Fo,Gi,Ta⟩ ⟨Kd,A,B,C,Tx⟩ p=y→∀Fl',nV ⟨K,W,Es,Fl,Fo,Gi,Ta⟩ Fl'=y→Wp (fun k=>aT k t1 z t2 K W Fo E2 F2 G2 T2 Es Fl' Gi Ta) (· =doW ⟨K,W,Es,Fl,Fo,Gi,Ta⟩ ⟨Kd,A,B,C,Tx⟩):=fun p hp hi hk2 h0 y hy Fl' hF=>by
    refine (HZ ..).mono fun x hr=> ?_
    rw [hr,VD (p:=p) hk2 h0 hp,hy,←hF];rfl
  have hin:0≤A∧A<(Fl.length:Int)→∃p,Fl[A.toNat]? =some p∧idx Fl A=some p∧av_ p:=fun hx=>by
    have hg:Fl[A.toNat]? =some (Fl[A.toNat]'(by omega)):=List.getElem?_eq_getElem (by omega)
    refine ⟨_,hg, ?_,h.2.2.2.2.2.1 _ (List.mem_of_getElem? hg)⟩
    have:=kB Fl A.toNat
    rw [Int.toNat_of_nonneg hx.1] at this;rw [this,hg]
  refine Wp.step ?_
  simp only [vD,kH]
  refine Wp.ite (fun e=> ?_) (fun e3=> ?_)
  ·refine Wp.dec (fun hx=> ?_) (fun hx=>none_ok True (by omega))
   obtain ⟨p,hp,hi,hv⟩:=hin hx
   refine Wp.dec (fun hl=> ?_) (fun hl=> ?_)
   ·simp only [hi,hp,Option.bind_some]
    refine Wp.opt (bP (by simp;omega)) ?_
    exact par p hp hi (by omega) hx.1 _ (by unfold yR;dsimp only;rw [if_neg (by omega),if_pos e,if_pos (by omega)]) _ rfl
   ·exact par p hp hi (by omega) hx.1 _ (by unfold yR;dsimp only;rw [if_neg (by omega),if_pos e,if_neg (by omega)];rfl) _ rfl
  refine Wp.ite (fun e=> ?_) (fun e5=> ?_)
  ·refine Wp.dec (fun hx=> ?_) (fun hx=>none_ok True (by omega))
   obtain ⟨p,hp,hi,hv⟩:=hin hx
   have u:¬((0≤B∧B<(p.Bytes.size:Int))∧0≤C)→yR ⟨K,W,Es,Fl,Fo,Gi,Ta⟩ ⟨Kd,A,B,C,Tx⟩ p=⟨K,W,Es,Fl,Fo,Gi,Ta⟩:=fun hn=>by
     unfold yR;dsimp only;rw [if_neg (by omega),if_neg (by omega),if_neg (by omega),if_pos e,if_neg hn]
   refine Wp.dec (fun h1=> ?_) (fun h1=>par p hp hi (by omega) hx.1 _ (u (by omega)) _ rfl)
   refine Wp.dec (fun h2=> ?_) (fun h2=>par p hp hi (by omega) hx.1 _ (u (by omega)) _ rfl)
   simp only [hi,hp,Option.bind_some]
   refine Wp.dec (fun h3=> ?_) (fun h3=>par p hp hi (by omega) hx.1 _ (u (by omega)) _ rfl)
   obtain ⟨b1,b2⟩:=XY (s:=p.Bytes) (b:=B) ⟨h2,h3⟩
   simp only [b1,b2,Option.bind_some]
   refine Wp.opt (kW h1 (by omega)) ?_
   exact par p hp hi (by omega) hx.1 _ (by unfold yR;dsimp only;rw [if_neg (by omega),if_neg (by omega),if_neg (by omega),if_pos e,if_pos ⟨⟨h2,h3⟩,h1⟩];rfl) _ rfl
  refine Wp.ite (fun e=> ?_) (fun e6=> ?_)
  ·refine Wp.dec (fun hx=> ?_) (fun hx=>none_ok True (by omega))
   obtain ⟨p,hp,hi,hv⟩:=hin hx
   have u:¬(0≤B∧B≤(p.Bytes.size:Int))→yR ⟨K,W,Es,Fl,Fo,Gi,Ta⟩ ⟨Kd,A,B,C,Tx⟩ p=⟨K,W,Es,Fl,Fo,Gi,Ta⟩:=fun hn=>by
     unfold yR;dsimp only;rw [if_neg (by omega),if_neg (by omega),if_neg (by omega),if_neg (by omega),if_pos e,if_neg hn]
   refine Wp.dec (fun h1=> ?_) (fun h1=>par p hp hi (by omega) hx.1 _ (u (by omega)) _ rfl)
   simp only [hi,hp,Option.bind_some]
   refine Wp.dec (fun h2=> ?_) (fun h2=>par p hp hi (by omega) hx.1 _ (u (by omega)) _ rfl)
   refine Wp.opt (bX ⟨by omega,h1,h2⟩) ?_
   exact par p hp hi (by omega) hx.1 _ (by unfold yR;dsimp only;rw [if_neg (by omega),if_neg (by omega),if_neg (by omega),if_neg (by omega),if_pos e,if_pos ⟨h1,h2⟩];rfl) _ rfl
  refine Wp.ite (fun e=> ?_) (fun e7=> ?_)
  ·refine Wp.dec (fun hx=> ?_) (fun hx=>none_ok True (by omega))
   obtain ⟨p,hp,hi,hv⟩:=hin hx
   simp only [hi,hp,Option.bind_some]
   have:=hv.1
   rw [bQ (n:=3-p.To) (by omega) (by omega)]
   exact par p hp hi (by omega) hx.1 _ (by unfold yR;dsimp only;rw [if_neg (by omega),if_neg (by omega),if_neg (by omega),if_neg (by omega),if_neg (by omega)]) _ rfl
  have en:(8≤Kd∧Kd≤11)→(1≤A∧A≤2)→∀y:aC,BX ⟨K,W,Es,Fl,Fo,Gi,Ta⟩ ⟨Kd,A,B,C,Tx⟩=y→Wp (fun k=>aT k t1 z t2 y.Key y.Width y.Forged E2 F2 G2 T2 y.Ends y.Flight y.Given y.Taken) (· =doW ⟨K,W,Es,Fl,Fo,Gi,Ta⟩ ⟨Kd,A,B,C,Tx⟩):=fun hk2 hn y hy=>by
    refine (HZ ..).mono fun x hr=> ?_
    rw [hr,bU_ hk2 hn,hy]
  refine Wp.ite (fun e=> ?_) (fun e8=> ?_)
  ·refine Wp.dec (fun hx=> ?_) (fun hx=>none_ok True (by omega))
   obtain ⟨a1,a2,a3⟩:=vH h5 hx
   simp only [a1,a2,a3,Option.bind_some]
   refine Wp.bind (U7 _) (fun r e'=> ?_)
   exact en (by omega) hx ⟨K,W,F9 A r Es,Fl,Fo,Gi,Ta⟩ (by unfold BX;dsimp only;rw [if_pos e,e'];rfl)
  refine Wp.ite (fun e=> ?_) (fun e9=> ?_)
  ·refine Wp.dec (fun hx=> ?_) (fun hx=>none_ok True (by omega))
   obtain ⟨a1,a2,a3⟩:=vH h5 hx
   simp only [a1,a2,a3,Option.bind_some]
   refine Wp.bind (WG _) (fun r e'=> ?_)
   exact en (by omega) hx ⟨K,W,F9 A r Es,Fl,Fo,Gi,Ta⟩ (by unfold BX;dsimp only;rw [if_neg e8,if_pos e,e'];rfl)
  refine Wp.ite (fun e=> ?_) (fun e10=> ?_)
  ·refine Wp.dec (fun hx=> ?_) (fun hx=>none_ok True (by omega))
   obtain ⟨a1,a2,a3⟩:=vH h5 hx
   have pu:∀y,RU ⟨K,W,Es,Fl,Fo,Gi,Ta⟩ A Tx=y→BX ⟨K,W,Es,Fl,Fo,Gi,Ta⟩ ⟨Kd,A,B,C,Tx⟩=y:=fun y hy=>by
     unfold BX;dsimp only;rw [if_neg e8,if_neg e9,if_pos e];exact hy
   unfold jX
   simp only [Option.bind_some,mZ,XG h4]
   refine Wp.not (fun hc=> ?_) (fun hc=> ?_)
   ·have hc:=of_decide_eq_false hc
    simp only [a1,a2,a3,Option.bind_some]
    refine Wp.bind (E6 _ _) (fun r e'=> ?_);subst e'
    refine Wp.ite (fun h0=> ?_) (fun h0=> ?_)
    ·refine Wp.opt (bP (by simp;omega)) ?_
     obtain ⟨l1,l2⟩:=WJ h0
     rw [l1,l2]
     exact en (by omega) hx ⟨K,W,F9 A (rG (eL A Es) Tx).End Es,Fl,Fo,Gi++[⟨A,(eL A Es).Life,(eL A Es).Peer,Tx⟩],Ta⟩ (pu _ (by unfold RU;dsimp only;rw [if_pos ⟨by omega,h0⟩]))
    ·exact en (by omega) hx ⟨K,W,Es,Fl,Fo,Gi,Ta⟩ (pu _ (by unfold RU;dsimp only;rw [if_neg (fun g=>h0 g.2)]))
   ·have hc:=of_decide_eq_true hc
    exact en (by omega) hx ⟨K,W,Es,Fl,Fo,Gi,Ta⟩ (pu _ (by unfold RU;dsimp only;rw [if_neg (fun g=>by omega)]))
  refine Wp.ite (fun e=> ?_) (fun e11=>none_ok True (by omega))
  refine Wp.dec (fun hx=> ?_) (fun hx=>none_ok True (by omega))
  refine Wp.bind (FK ⟨K,W,Es,Fl,Fo,Gi,Ta⟩ h A hx) (fun r e'=> ?_)
  exact en (by omega) hx r (by unfold BX;dsimp only;rw [if_neg e8,if_neg e9,if_neg e10,e'])
theorem dx_ (h:aS ⟨K,W,Es,Fl,Fo,Gi,Ta⟩):Wp (fun k=>uE k (decide (1≤A∧A≤2)) (decide (0≤A∧A<(Fl.length:Int))) Kd A B C Tx t1 z t2 K W Fo E2 F2 G2 T2 Es Fl Gi Ta) (· =doW ⟨K,W,Es,Fl,Fo,Gi,Ta⟩ ⟨Kd,A,B,C,Tx⟩):=by
  refine Wp.step ?_
  simp only [uE,kH]
  refine Wp.ite (fun e=> ?_) (fun e1=> ?_)
  ·refine Wp.bind (FX ⟨K,W,Es,Fl,Fo,Gi,Ta⟩ h) (fun r e'=> ?_)
   exact (HZ ..).mono fun x hr=>by rw [hr,e'];unfold doW;rw [if_pos e]
  refine Wp.ite (fun e=>aP_ _ _ _ _ _ _ _ _ _ _ _ _ _ _ _ _ _ _ _ h (.inl e)) (fun e2=> ?_)
  refine Wp.ite (fun e=>aP_ _ _ _ _ _ _ _ _ _ _ _ _ _ _ _ _ _ _ _ h (.inr e)) (fun e4=> ?_)
  exact eL_ _ _ _ _ _ _ _ _ _ _ _ _ _ _ _ _ _ _ _ h ⟨e1,e2,e4⟩
theorem dN_ (h:aS ⟨K,W,Es,Fl,Fo,Gi,Ta⟩):Wp (fun k=>tZ k (decide (1≤A∧A≤2)) Kd A B C Tx t1 z t2 K W Fo E2 F2 G2 T2 Es Fl Gi Ta) (· =doW ⟨K,W,Es,Fl,Fo,Gi,Ta⟩ ⟨Kd,A,B,C,Tx⟩):=by
  refine Wp.step ?_
  simp only [tZ]
  refine Wp.dec (fun hx=> ?_) (fun hx=> ?_)
  ·have:=dx_ K Fo t1 t2 Tx W z Kd A B C Es Fl Gi Ta E2 F2 G2 T2 h
   rw [show decide (0≤A∧A<(Fl.length:Int))=decide (A<(Fl.length:Int)) from decide_eq_decide.mpr ⟨fun g=>g.2,fun g=>⟨hx,g⟩⟩] at this
   exact this
  ·have:=dx_ K Fo t1 t2 Tx W z Kd A B C Es Fl Gi Ta E2 F2 G2 T2 h
   rw [show decide (0≤A∧A<(Fl.length:Int))=false from decide_eq_false (fun g=>hx g.1)] at this
   exact this
end
theorem LJ (w:aC) (hb:w.Given.length≤1048576∧w.Taken.length≤1048576) (v:bI):Wp (fun k=>s7 k w v) (· =doM w v):=by
  unfold s7 doM
  refine Wp.bind (kP w hb) (fun _ e=> ?_);subst e
  refine Wp.not (fun h=> ?_) (fun h=> ?_)
  ·exact Wp.ret (by rw [if_neg (of_decide_eq_false h)];rfl)
  ·have hv:=of_decide_eq_true h
   rw [if_pos hv]
   refine Wp.bind (FZ w hv) (fun _ e=> ?_);have e'':=e.symm;subst e''
   simp only [kH]
   refine Wp.ite (fun e=> ?_) (fun e=> ?_)
   ·have:=dN_ w.Key w.Forged noB noB v.Text w.Width 0 v.Kind v.A v.B v.C w.Ends w.Flight w.Given w.Taken [] [] [] [] hv
    rw [show decide (1≤v.A∧v.A≤2)=true from decide_eq_true (by omega)] at this
    exact this
   ·have:=dN_ w.Key w.Forged noB noB v.Text w.Width 0 v.Kind v.A v.B v.C w.Ends w.Flight w.Given w.Taken [] [] [] [] hv
    rw [show decide (1≤v.A∧v.A≤2)=(v.A==2) by rw [Bool.eq_iff_iff];simp;omega] at this
    exact this
theorem eq_pair_iff {x y:DPair}:cJ x y=true↔x=y:=⟨DP,fun h=>by subst h;simp [cJ]⟩
instance:DecidableEq DPair:=fun x y=>decidable_of_iff _ eq_pair_iff
def mget {β:Type} (key:DPair):List (DPair×β)→Option β
  | []=>none
  | (a,b)::l=>if a=key then some b else mget key l
theorem qL {β:Type} {key:DPair}:∀{l:List (DPair×β)} {i:Nat},cC (cJ key) l i=none→mget key l=none
  | [],_,_=>rfl
  | (a,b)::l,i,h=>by
    simp only [cC] at h
    split at h
    ·cases h
    ·rename_i hq
     simp only [mget]
     rw [if_neg (fun e=>by subst e;rw [eq_pair_iff.mpr rfl] at hq;cases hq)]
     exact qL h
theorem qN {β:Type} {key:DPair}:∀{l:List (DPair×β)} {i j:Nat} {b:β},cC (cJ key) l i=some (j,b)→∃d,j=i+d∧l[d]? =some (key,b)∧mget key l=some b∧∀v key',mget key' (l.set d (key,v))=if key'=key then some v else mget key' l
  | [],_,_,_,h=>by cases h
  | (a,c)::l,i,j,b,h=>by
    simp only [cC] at h
    split at h
    ·rename_i hq
     have:=DP hq;subst this
     cases h
     refine ⟨0,rfl,rfl,by simp only [mget,if_true],fun v key'=> ?_⟩
     simp only [List.set_cons_zero,mget]
     by_cases e:key=key'
     ·subst e;simp
     ·rw [if_neg e,if_neg e,if_neg (fun g=>e g.symm)]
    ·rename_i hq
     have hne:a≠key:=fun e=>by subst e;rw [eq_pair_iff.mpr rfl] at hq;cases hq
     obtain ⟨d,e1,e2,e3,e4⟩:=qN h
     refine ⟨d+1,by omega,e2,by simp only [mget];rw [if_neg hne,e3],fun v key'=> ?_⟩
     simp only [List.set_cons_succ,mget,e4]
     by_cases e:a=key'
     ·subst e;rw [if_pos rfl,if_neg hne,if_pos rfl]
     ·rw [if_neg e,if_neg e]
theorem A5 {β:Type} {key key':DPair} {v:β}:∀(l:List (DPair×β)),mget key l=none→mget key' (l++[(key,v)])=if key'=key then some v else mget key' l
  | [],_=>by
    simp only [List.nil_append,mget]
    by_cases e:key=key'
    ·subst e;simp
    ·rw [if_neg e,if_neg (fun g=>e g.symm)]
  | (a,b)::l,h=>by
    simp only [mget] at h
    split at h
    ·cases h
    ·rename_i hne
     simp only [List.cons_append,mget,A5 l h]
     by_cases e:a=key'
     ·subst e;rw [if_pos rfl,if_neg hne,if_pos rfl]
     ·rw [if_neg e,if_neg e]
theorem O0 {α:Type} (l:List α) (x y:α):(l++[x]).set l.length y=l++[y]:=by simp
theorem YI {β:Type} {l:List (DPair×β)} {d:Nat} {key:DPair} {b:β} (h:l[d]? =some (key,b)):(l.modify d fun e=>(e.1,b))=l:=by
  obtain ⟨h1,h2⟩:=List.getElem?_eq_some_iff.mp h
  apply List.ext_getElem?
  intro i
  rw [List.getElem?_modify]
  by_cases e:d=i
  ·subst e;rw [h];simp
  ·cases l[i]? <;>simp [e]
def kf (r:aA):DPair:=⟨r.From,r.A,r.B⟩
def gC (l:List aA) (key:DPair):List ByteArray:=(l.filter (fun r=>decide (kf r=key))).map (·.Text)
theorem qY (l:List aA) (r:aA) (key:DPair):gC (l++[r]) key=if key=kf r then gC l key++[r.Text] else gC l key:=by
  unfold gC
  rw [List.filter_append,List.map_append]
  by_cases e:kf r=key
  ·subst e;simp
  ·rw [if_neg (fun g=>e g.symm)];simp [e]
theorem AS (l:List aA) (r:aA) (key:DPair):gC (r::l) key=if kf r=key then r.Text::gC l key else gC l key:=by
  unfold gC
  by_cases e:kf r=key
  ·simp [e]
  ·simp [e]
theorem uC (l:List aA) (key:DPair):(gC l key).length≤l.length:=by
  unfold gC;rw [List.length_map];exact List.length_filter_le _ _
def wT (G:List aA):List aA→List aA→Bool
  | _,[]=>true
  | pre,r::t=>decide ((gC G (kf r))[(gC pre (kf r)).length]? =some r.Text)&&wT G (pre++[r]) t
def QQ (w:aC):Bool:=decide (aS w)&&wT w.Given [] w.Taken
def ar_ (th:Bool) (n:Int) (t:List aA) (x:aA):Bool:=th || decide (0≤n∧(gC t (kf x))[n.toNat]? =some x.Text)
theorem hE_ (K Fo:ByteArray) (W i:Int) (Es:List aN) (Fl:List aE) (Ta:List aA) (x:aA) (Q:Bool→Prop) (G:List aA) (hG:G.length≤1000):∀(t pre:List aA) (n:Int) (th:Bool),pre++t=G→(-(pre.length:Int)≤n∧n≤1000)→
    (ar_ th n t x=true→Wp (fun k=>iP k (IntKind.wrap .i64 (i+1)) K W Es Fl Fo G Ta) Q)→(ar_ th n t x=false→Q false)→
    Wp (fun k=>gJ k i n th (pre.length:Int) K W Es Fl Fo G Ta x.From x.A x.B x.Text) Q
  | [],pre,n,th,he,hn,go,no=>by
    have he':pre=G:=by simpa using he
    refine Wp.step ?_
    simp only [gJ]
    refine Wp.dec (fun h=>by rw [←he'] at h;omega) (fun _=> ?_)
    have e:ar_ th n [] x=th:=by simp [ar_,gC]
    refine Wp.not (fun h=> ?_) (fun h=>go (by rw [e,h]))
    exact Wp.ret (no (by rw [e,h]))
  | y::t,pre,n,th,he,hn,go,no=>by
    have hl:pre.length+(y::t).length≤1000:=by rw [←List.length_append,he];exact hG
    simp only [List.length_cons] at hl
    refine Wp.step ?_
    simp only [gJ]
    refine Wp.dec (fun _=> ?_) (fun h=>absurd (by rw [←he];simp;omega) h)
    rw [show idx G (pre.length:Int)=some y by rw [←he];exact bK]
    simp only [Option.bind_some,kH]
    have nx:∀(m:Int) (b:Bool),(n-1≤m∧m≤n)→ar_ b m t x=ar_ th n (y::t) x→Wp (fun k=>dB k i m b (pre.length:Int) K W Es Fl Fo G Ta x.From x.A x.B x.Text) Q:=fun m b hm hs=>by
      refine Wp.step ?_
      simp only [dB]
      rw [bQ (n:=(pre.length:Int)+1) (by omega) (by omega)]
      have:=hE_ K Fo W i Es Fl Ta x Q G hG t (pre++[y]) m b (by rw [←he];simp) (by simp;omega) (fun h=>go (hs▸h)) (fun h=>no (hs▸h))
      rw [show ((pre++[y]).length:Int)=(pre.length:Int)+1 by simp] at this
      exact this
    have other:kf y≠kf x→Wp (fun k=>dB k i n th (pre.length:Int) K W Es Fl Fo G Ta x.From x.A x.B x.Text) Q:=fun hne=>by
      refine nx n th (by omega) ?_
      simp only [ar_,AS,if_neg hne]
    refine Wp.ite (fun e1=> ?_) (fun e1=>other (fun g=>e1 (congrArg DPair.f g)))
    refine Wp.ite (fun e2=> ?_) (fun e2=>other (fun g=>e2 (congrArg DPair.a g)))
    refine Wp.ite (fun e3=> ?_) (fun e3=>other (fun g=>e3 (congrArg DPair.b g)))
    have hk:kf y=kf x:=by simp [kf,e1,e2,e3]
    rw [bQ (n:=n-1) (by omega) (by omega)]
    refine Wp.bif (fun h=> ?_) (fun h=> ?_)
    ·exact nx _ _ (by omega) (by simp [ar_,h])
    ·refine Wp.ite (fun h0=> ?_) (fun h0=> ?_)
     ·rw [dE_]
      refine nx _ _ (by omega) ?_
      subst h0
      simp only [ar_,h,AS,if_pos hk]
      simp
     ·refine nx _ _ (by omega) ?_
      simp only [ar_,h,AS,if_pos hk,Bool.false_or]
      apply decide_eq_decide.mpr
      constructor
      ·rintro ⟨h1,h2⟩
       refine ⟨by omega, ?_⟩
       rw [show n.toNat=(n-1).toNat+1 by omega,List.getElem?_cons_succ];exact h2
      ·rintro ⟨h1,h2⟩
       refine ⟨by omega, ?_⟩
       rw [show n.toNat=(n-1).toNat+1 by omega,List.getElem?_cons_succ] at h2;exact h2
theorem sr9 (K Fo:ByteArray) (W i:Int) (Es:List aN) (Fl:List aE) (G:List aA) (x:aA) (Q:Bool→Prop) (Ta:List aA) (hT:Ta.length≤1000):∀(p2 p1 rest:List aA),p1++p2++rest=Ta→i=((p1++p2).length:Int)→
    Wp (fun k=>gJ k i ((gC (p1++p2) (kf x)).length:Int) false 0 K W Es Fl Fo G Ta x.From x.A x.B x.Text) Q→
    Wp (fun k=>kD k i ((gC p1 (kf x)).length:Int) (p1.length:Int) K W Es Fl Fo G Ta x.From x.A x.B x.Text) Q
  | [],p1,rest,he,hi,go=>by
    simp only [List.append_nil] at hi go
    refine Wp.step ?_
    simp only [kD]
    refine Wp.dec (fun h=>by omega) (fun _=>go)
  | y::p2,p1,rest,he,hi,go=>by
    have hl:p1.length+(p2.length+1)+rest.length≤1000:=by
      have:(p1++(y::p2)++rest).length≤1000:=by rw [he];exact hT
      simp at this;omega
    refine Wp.step ?_
    simp only [kD]
    refine Wp.dec (fun _=> ?_) (fun h=>absurd (by rw [hi];simp;omega) h)
    rw [show idx Ta (p1.length:Int)=some y by rw [←he,List.append_assoc];exact bK]
    simp only [Option.bind_some,kH]
    have hlen:=uC p1 (kf x)
    have nx:Wp (fun k=>eP k i ((gC (p1++[y]) (kf x)).length:Int) (p1.length:Int) K W Es Fl Fo G Ta x.From x.A x.B x.Text) Q:=by
      refine Wp.step ?_
      simp only [eP]
      rw [bQ (n:=(p1.length:Int)+1) (by omega) (by omega)]
      have:=sr9 K Fo W i Es Fl G x Q Ta hT p2 (p1++[y]) rest (by rw [←he];simp) (by rw [hi];simp) (by simpa using go)
      rw [show ((p1++[y]).length:Int)=(p1.length:Int)+1 by simp] at this
      exact this
    have other:kf y≠kf x→Wp (fun k=>eP k i ((gC p1 (kf x)).length:Int) (p1.length:Int) K W Es Fl Fo G Ta x.From x.A x.B x.Text) Q:=fun hne=>by
      rw [qY,if_neg (fun g=>hne g.symm)] at nx;exact nx
    refine Wp.ite (fun e1=> ?_) (fun e1=>other (fun g=>e1 (congrArg DPair.f g)))
    refine Wp.ite (fun e2=> ?_) (fun e2=>other (fun g=>e2 (congrArg DPair.a g)))
    refine Wp.ite (fun e3=> ?_) (fun e3=>other (fun g=>e3 (congrArg DPair.b g)))
    have hk:kf x=kf y:=by simp [kf,e1,e2,e3]
    rw [bQ (n:=((gC p1 (kf x)).length:Int)+1) (by omega) (by omega)]
    rw [qY,if_pos hk,List.length_append] at nx
    exact nx
theorem sr4 (K Fo:ByteArray) (W:Int) (Es:List aN) (Fl:List aE) (G Ta:List aA) (hG:G.length≤1000) (hT:Ta.length≤1000):∀(t pre:List aA),pre++t=Ta→Wp (fun k=>iP k (pre.length:Int) K W Es Fl Fo G Ta) (· =wT G pre t)
  | [],pre,he=>by
    have he':pre=Ta:=by simpa using he
    refine Wp.step ?_
    simp only [iP]
    refine Wp.dec (fun h=>by rw [←he'] at h;omega) (fun _=>Wp.ret rfl)
  | x::t,pre,he=>by
    have hl:pre.length+(t.length+1)≤1000:=by
      have:(pre++(x::t)).length≤1000:=by rw [he];exact hT
      simpa using this
    refine Wp.step ?_
    simp only [iP]
    refine Wp.dec (fun _=> ?_) (fun h=>absurd (by rw [←he];simp;omega) h)
    rw [show idx Ta (pre.length:Int)=some x by rw [←he];exact bK]
    simp only [Option.bind_some]
    have hlen:=uC pre (kf x)
    refine sr9 K Fo W (pre.length:Int) Es Fl G x _ Ta hT pre [] (x::t) (by simpa using he) (by simp) ?_
    simp only [List.nil_append]
    refine hE_ K Fo W (pre.length:Int) Es Fl Ta x _ G hG G [] _ false rfl (by simp;omega) (fun hs=> ?_) (fun hs=> ?_)
    ·rw [bQ (n:=(pre.length:Int)+1) (by omega) (by omega)]
     have:=sr4 K Fo W Es Fl G Ta hG hT t (pre++[x]) (by rw [←he];simp)
     rw [show ((pre++[x]).length:Int)=(pre.length:Int)+1 by simp] at this
     refine this.mono fun r hr=> ?_
     rw [hr]
     simp only [ar_,Bool.false_or,decide_eq_true_eq,Int.toNat_natCast] at hs
     simp only [wT,decide_eq_true hs.2,Bool.true_and]
    ·simp only [ar_,Bool.false_or,decide_eq_false_iff_not,Int.toNat_natCast] at hs
     simp only [wT]
     rw [decide_eq_false (fun g=>hs ⟨by omega,g⟩)];rfl
theorem R5 (w:aC) (hb:w.Given.length≤1048576∧w.Taken.length≤1048576):Wp (fun k=>yH k w) (· =QQ w):=by
  unfold yH QQ
  refine Wp.bind (kI w hb) (fun _ e=> ?_);subst e
  refine Wp.not (fun h=>Wp.ret (by rw [h];rfl)) (fun h=> ?_)
  have hv:=of_decide_eq_true h
  have h4:=hv.2.2.2.1
  rw [h]
  exact sr4 w.Key w.Forged w.Width w.Ends w.Flight w.Given w.Taken (by omega) (by omega) w.Taken [] rfl
theorem Wp.optK {α R:Type} {o:Option α} {A:Nat→Option R} {B:Nat→α→Option R} {Q:R→Prop} (h0:o=none→Wp A Q) (h1:∀p,o=some p→Wp (fun k=>B k p) Q):Wp (fun k=>Km.optK o (A k) (B k)) Q:=by
  cases o with
  | none=>exact h0 rfl
  | some p=>exact h1 p rfl
theorem EU {β:Type} {key:DPair} {v:β}:∀{l:List (DPair×β)} {i:Nat},cC (cJ key) l i=none→cC (cJ key) (l++[(key,v)]) i=some (i+l.length,v)
  | [],i,_=>by simp only [List.nil_append,cC,eq_pair_iff.mpr rfl];rfl
  | (a,b)::l,i,h=>by
    simp only [cC] at h
    split at h
    ·cases h
    ·rename_i hq
     simp only [List.cons_append,cC,hq]
     rw [EU h];simp;omega
def gp_ (m:List (DPair×List ByteArray)) (pre:List aA):Prop:=∀key,(mget key m).getD []=gC pre key
def AtI (m:List (DPair×Int)) (pre:List aA):Prop:=∀key,(mget key m).getD 0=((gC pre key).length:Int)
theorem ir5 (K Fo:ByteArray) (W:Int) (Es:List aN) (Fl:List aE) (G Ta:List aA) (hG:G.length≤1000) (Q:Bool→Prop):∀(t pre:List aA) (m:List (DPair×List ByteArray)),pre++t=G→gp_ m pre→
    (∀m,gp_ m G→Wp (fun k=>bS k Ta (Ta.length:Int) 0 m []) Q)→
    Wp (fun k=>gD k G (G.length:Int) (pre.length:Int) K W Es Fl Fo G Ta m) Q
  | [],pre,m,he,hi,go=>by
    have he':pre=G:=by simpa using he
    refine Wp.step ?_
    simp only [gD]
    refine Wp.dec (fun h=>by rw [he'] at h;omega) (fun _=> ?_)
    exact go m (he'▸hi)
  | x::t,pre,m,he,hi,go=>by
    have hl:pre.length+(t.length+1)≤1000:=by
      have:(pre++(x::t)).length≤1000:=by rw [he];exact hG
      simpa using this
    refine Wp.step ?_
    simp only [gD]
    refine Wp.dec (fun _=> ?_) (fun h=>absurd (by rw [←he];simp;omega) h)
    rw [show idx G (pre.length:Int)=some x by rw [←he];exact bK]
    simp only [Option.bind_some]
    have hk:(⟨x.From,x.A,x.B⟩:DPair)=kf x:=rfl
    rw [hk,bQ (n:=(pre.length:Int)+1) (by omega) (by omega)]
    have hlen:=uC pre (kf x)
    have nx:∀m',gp_ m' (pre++[x])→Wp (fun k=>gD k G (G.length:Int) ((pre.length:Int)+1) K W Es Fl Fo G Ta m') Q:=fun m' h'=>by
      have:=ir5 K Fo W Es Fl G Ta hG Q t (pre++[x]) m' (by rw [←he];simp) h' go
      rw [show ((pre++[x]).length:Int)=(pre.length:Int)+1 by simp] at this
      exact this
    refine Wp.optK (fun h0=> ?_) (fun p h1=> ?_)
    ·have hn:=qL h0
     refine Wp.opt (bP (by simp)) ?_
     refine Wp.opt (x:=(kf x,[])) (by rw [kB];simp) ?_
     dsimp only
     rw [Int.toNat_natCast,O0]
     refine nx _ (fun key=> ?_)
     rw [A5 m hn,qY]
     by_cases e:key=kf x
     ·subst e
      rw [if_pos rfl,if_pos rfl,←hi,hn];rfl
     ·rw [if_neg e,if_neg e,hi]
    ·obtain ⟨j,b⟩:=p
     obtain ⟨d,e1,e2,e3,e4⟩:=qN h1
     rw [Nat.zero_add] at e1;subst e1
     have hb:=hi (kf x)
     rw [e3] at hb
     simp only [Option.getD_some] at hb
     subst hb
     refine Wp.opt (bP (by simp;omega)) ?_
     dsimp only
     rw [Int.toNat_natCast,show Nat.beq j j=true by simp,kB,e2]
     simp only [cond_true,Option.bind_some]
     refine nx _ (fun key=> ?_)
     rw [e4,qY]
     by_cases e:key=kf x
     ·rw [if_pos e,if_pos e,e];rfl
     ·rw [if_neg e,if_neg e,hi]
theorem hU_ (Ta:List aA) (x:aA) (Q:Bool→Prop) (i c:Int) (x3:List (DPair×List ByteArray)) (x4:List (DPair×Int)) (hc:(mget (kf x) x4).getD 0=c) (hcb:0≤c∧c≤1000)
    (go:∀m,(∀key,(mget key m).getD 0=if key=kf x then c+1 else (mget key x4).getD 0)→Wp (fun k=>bS k Ta (Ta.length:Int) (IntKind.wrap .i64 (i+1)) x3 m) Q):
    Wp (fun k=>bZ k Ta (Ta.length:Int) i x3 x4 x.From x.A x.B) Q:=by
  refine Wp.step ?_
  simp only [bZ]
  rw [show (⟨x.From,x.A,x.B⟩:DPair)=kf x from rfl]
  cases h4:cC (cJ (kf x)) x4 0 with
  | none=>
    have hn:=qL h4
    rw [hn] at hc
    simp only [Option.getD_none] at hc
    subst hc
    simp only [Km.optK,EU h4,Nat.zero_add,kB,Int.toNat_natCast,O0]
    simp only [List.getElem?_append_right (Nat.le_refl _),Nat.sub_self,List.getElem?_cons_zero,Option.bind_some,mZ]
    rw [bQ (n:=0+1) (by omega) (by omega)]
    refine go _ (fun key=> ?_)
    rw [A5 x4 hn]
    by_cases e:key=kf x
    ·rw [if_pos e,if_pos e];rfl
    ·rw [if_neg e,if_neg e]
  | some p=>
    obtain ⟨j,b⟩:=p
    obtain ⟨d,e1,e2,e3,e4⟩:=qN h4
    rw [Nat.zero_add] at e1;subst e1
    rw [e3] at hc
    simp only [Option.getD_some] at hc
    subst hc
    simp only [Km.optK,kB,e2,Option.bind_some,Int.toNat_natCast,mZ]
    rw [bQ (n:=b+1) (by omega) (by omega)]
    refine go _ (fun key=> ?_)
    rw [e4]
    by_cases e:key=kf x
    ·rw [if_pos e,if_pos e];rfl
    ·rw [if_neg e,if_neg e]
theorem hC_ (G Ta:List aA) (hG:G.length≤1000) (hT:Ta.length≤1000) (x3:List (DPair×List ByteArray)) (h3:gp_ x3 G):∀(t pre:List aA) (x4:List (DPair×Int)),pre++t=Ta→AtI x4 pre→Wp (fun k=>bS k Ta (Ta.length:Int) (pre.length:Int) x3 x4) (· =wT G pre t)
  | [],pre,x4,he,hi=>by
    have he':pre=Ta:=by simpa using he
    refine Wp.step ?_
    simp only [bS]
    refine Wp.dec (fun h=>by rw [he'] at h;omega) (fun _=>Wp.ret rfl)
  | x::t,pre,x4,he,hi=>by
    have hl:pre.length+(t.length+1)≤1000:=by
      have:(pre++(x::t)).length≤1000:=by rw [he];exact hT
      simpa using this
    have hlen:=uC pre (kf x)
    have hglen:=uC G (kf x)
    have hc:=hi (kf x)
    have hg:=h3 (kf x)
    have nx:∀c:Int,((gC pre (kf x)).length:Int)=c→(gC G (kf x))[c.toNat]? =some x.Text→Wp (fun k=>bZ k Ta (Ta.length:Int) (pre.length:Int) x3 x4 x.From x.A x.B) (· =wT G pre (x::t)):=fun c hcc hx=>by
      refine hU_ Ta x _ (pre.length:Int) c x3 x4 (by rw [hc,hcc]) (by omega) (fun m hm=> ?_)
      rw [bQ (n:=(pre.length:Int)+1) (by omega) (by omega)]
      have:=hC_ G Ta hG hT x3 h3 t (pre++[x]) m (by rw [←he];simp) (fun key=>by
        rw [hm,qY]
        by_cases e:key=kf x
        ·rw [if_pos e,if_pos e,e,List.length_append,←hcc];rfl
        ·rw [if_neg e,if_neg e,hi])
      rw [show ((pre++[x]).length:Int)=(pre.length:Int)+1 by simp] at this
      refine this.mono fun r hr=> ?_
      rw [hr]
      simp only [wT]
      rw [show (gC pre (kf x)).length=c.toNat by omega,hx];simp
    have no:∀c:Int,((gC pre (kf x)).length:Int)=c→¬(gC G (kf x))[c.toNat]? =some x.Text→false=wT G pre (x::t):=fun c hcc hx=>by
      simp only [wT]
      rw [decide_eq_false (by rw [show (gC pre (kf x)).length=c.toNat by omega];exact hx)];rfl
    refine Wp.step ?_
    simp only [bS]
    refine Wp.dec (fun _=> ?_) (fun h=>absurd (by rw [←he];simp;omega) h)
    rw [show idx Ta (pre.length:Int)=some x by rw [←he];exact bK]
    simp only [Option.bind_some]
    rw [show (⟨x.From,x.A,x.B⟩:DPair)=kf x from rfl]
    have fin:∀(g:List ByteArray) (c:Int),gC G (kf x)=g→((gC pre (kf x)).length:Int)=c→¬(c≥(g.length:Int))→Wp (fun k=>(idx g c).bind fun _=>(g[c.toNat]?).bind fun y=>bif (!(y.toList==x.Text.toList)) then some false else bZ k Ta (Ta.length:Int) (pre.length:Int) x3 x4 x.From x.A x.B) (· =wT G pre (x::t)):=fun g c hgg hcc hlt=>by
      have hx:g[c.toNat]? =some (g[c.toNat]'(by omega)):=List.getElem?_eq_getElem (by omega)
      generalize g[c.toNat]'(by omega)=y at hx
      have hx':idx g c=some y:=by have:=kB g c.toNat;rw [Int.toNat_of_nonneg (by omega)] at this;rw [this,hx]
      refine Wp.opt hx' (Wp.opt hx ?_)
      simp only [cE,oA]
      refine Wp.ite (fun e=>nx c hcc (by rw [hgg,hx,e])) (fun e=>Wp.ret (no c hcc (by rw [hgg,hx];simpa using e)))
    cases h4:cC (cJ (kf x)) x4 0 with
    | none=>
      rw [qL h4] at hc
      simp only [Option.getD_none] at hc
      cases h5:cC (cJ (kf x)) x3 0 with
      | none=>
        rw [qL h5] at hg
        simp only [Option.getD_none] at hg
        simp only [Km.optK]
        refine Wp.dec (fun _=>Wp.ret (no 0 hc.symm (by rw [←hg];simp))) (fun h=>absurd (by simp) h)
      | some p=>
        obtain ⟨j,b⟩:=p
        obtain ⟨d,e1,e2,e3,e4⟩:=qN h5
        rw [Nat.zero_add] at e1;subst e1
        rw [e3] at hg
        simp only [Option.getD_some] at hg
        simp only [Km.optK,YI e2,h5]
        refine Wp.dec (fun h=>Wp.ret (no 0 hc.symm (by rw [←hg,List.getElem?_eq_none (by omega)];simp))) (fun h=>fin b 0 hg.symm hc.symm h)
    | some q=>
      obtain ⟨jq,c⟩:=q
      obtain ⟨dq,f1,f2,f3,f4⟩:=qN h4
      rw [f3] at hc
      simp only [Option.getD_some] at hc
      cases h5:cC (cJ (kf x)) x3 0 with
      | none=>
        rw [qL h5] at hg
        simp only [Option.getD_none] at hg
        simp only [Km.optK]
        refine Wp.dec (fun _=>Wp.ret (no c hc.symm (by rw [←hg];simp))) (fun h=>absurd (by simp;omega) h)
      | some p=>
        obtain ⟨j,b⟩:=p
        obtain ⟨d,e1,e2,e3,e4⟩:=qN h5
        rw [Nat.zero_add] at e1;subst e1
        rw [e3] at hg
        simp only [Option.getD_some] at hg
        simp only [Km.optK,YI e2,h5]
        refine Wp.dec (fun h=>Wp.ret (no c hc.symm (by rw [←hg,List.getElem?_eq_none (by omega)];simp))) (fun h=>fin b c hg.symm hc.symm h)
theorem SU (w:aC) (hb:w.Given.length≤1048576∧w.Taken.length≤1048576):Wp (fun k=>yI k w) (· =QQ w):=by
  unfold yI QQ
  refine Wp.bind (kP w hb) (fun _ e=> ?_);subst e
  refine Wp.not (fun h=>Wp.ret (by rw [h];rfl)) (fun h=> ?_)
  have hv:=of_decide_eq_true h
  have h4:=hv.2.2.2.1
  rw [h]
  exact ir5 w.Key w.Forged w.Width w.Ends w.Flight w.Given w.Taken (by omega) _ w.Given [] [] rfl (fun key=>rfl) (fun m hm=>hC_ w.Given w.Taken (by omega) (by omega) m hm w.Taken [] [] rfl (fun key=>rfl))
theorem eq_key_iff {x y:DKey}:lI x y=true↔x=y:=⟨K7,fun h=>by subst h;simp [lI]⟩
instance:DecidableEq DKey:=fun x y=>decidable_of_iff _ eq_key_iff
def pk (p:aE):DKey:=⟨p.To,p.Bytes⟩
def uB (h:List DKey) (key:DKey):Nat:=(h.filter (fun x=>decide (x=key))).length
theorem AD (h:List DKey) (a key:DKey):uB (h++[a]) key=if key=a then uB h key+1 else uB h key:=by
  unfold uB
  rw [List.filter_append,List.length_append]
  by_cases e:a=key
  ·subst e;simp
  ·rw [if_neg (fun g=>e g.symm)];simp [e]
theorem SZ (h:List DKey) (key:DKey):uB h key≤h.length:=List.length_filter_le _ _
def RM {β:Type} (key:DKey):List (DKey×β)→Option β
  | []=>none
  | (a,b)::l=>if a=key then some b else RM key l
theorem ND {β:Type} {key:DKey}:∀{l:List (DKey×β)} {i:Nat},cC (lI key) l i=none→RM key l=none
  | [],_,_=>rfl
  | (a,b)::l,i,h=>by
    simp only [cC] at h
    split at h
    ·cases h
    ·rename_i hq
     simp only [RM]
     rw [if_neg (fun e=>by subst e;rw [eq_key_iff.mpr rfl] at hq;cases hq)]
     exact ND h
theorem NP {β:Type} {key:DKey}:∀{l:List (DKey×β)} {i j:Nat} {b:β},cC (lI key) l i=some (j,b)→∃d,j=i+d∧l[d]? =some (key,b)∧RM key l=some b∧(∀v key',RM key' (l.set d (key,v))=if key'=key then some v else RM key' l)∧∀v i,cC (lI key) (l.set d (key,v)) i=some (i+d,v)
  | [],_,_,_,h=>by cases h
  | (a,c)::l,i,j,b,h=>by
    simp only [cC] at h
    split at h
    ·rename_i hq
     have:=K7 hq;subst this
     cases h
     refine ⟨0,rfl,rfl,by simp only [RM,if_true],fun v key'=> ?_,fun v i=> ?_⟩
     ·simp only [List.set_cons_zero,RM]
      by_cases e:key=key'
      ·subst e;simp
      ·rw [if_neg e,if_neg e,if_neg (fun g=>e g.symm)]
     ·simp only [List.set_cons_zero,cC,eq_key_iff.mpr rfl];rfl
    ·rename_i hq
     have hne:a≠key:=fun e=>by subst e;rw [eq_key_iff.mpr rfl] at hq;cases hq
     obtain ⟨d,e1,e2,e3,e4,e5⟩:=NP h
     refine ⟨d+1,by omega,e2,by simp only [RM];rw [if_neg hne,e3],fun v key'=> ?_,fun v i=> ?_⟩
     ·simp only [List.set_cons_succ,RM,e4]
      by_cases e:a=key'
      ·subst e;rw [if_pos rfl,if_neg hne,if_pos rfl]
      ·rw [if_neg e,if_neg e]
     ·simp only [List.set_cons_succ,cC,hq]
      rw [e5];simp;omega
theorem K2 {β:Type} {key key':DKey} {v:β}:∀(l:List (DKey×β)),RM key l=none→RM key' (l++[(key,v)])=if key'=key then some v else RM key' l
  | [],_=>by
    simp only [List.nil_append,RM]
    by_cases e:key=key'
    ·subst e;simp
    ·rw [if_neg e,if_neg (fun g=>e g.symm)]
  | (a,b)::l,h=>by
    simp only [RM] at h
    split at h
    ·cases h
    ·rename_i hne
     simp only [List.cons_append,RM,K2 l h]
     by_cases e:a=key'
     ·subst e;rw [if_pos rfl,if_neg hne,if_pos rfl]
     ·rw [if_neg e,if_neg e]
theorem wL {β:Type} {key:DKey} {v:β}:∀{l:List (DKey×β)} {i:Nat},cC (lI key) l i=none→cC (lI key) (l++[(key,v)]) i=some (i+l.length,v)
  | [],i,_=>by simp only [List.nil_append,cC,eq_key_iff.mpr rfl];rfl
  | (a,b)::l,i,h=>by
    simp only [cC] at h
    split at h
    ·cases h
    ·rename_i hq
     simp only [List.cons_append,cC,hq]
     rw [wL h];simp;omega
def mG (ev:Int):List aE→List DKey→aC→aC×List DKey
  | [],h,w=>(w,h)
  | p::t,h,w=>mG ev t (h++[pk p]) (if ((uB h (pk p):Int)+1)%ev=0 then oW w p else w)
def k9 (n:Int):Nat→aC→aC
  | 0,w=>w
  | d+1,w=>if (eL n w.Ends).Take.Ready=[] then w else k9 n d (LL w n)
def M3 (ev:Int) (s:aC×List DKey):aC×List DKey:=
  (k9 2 4 (k9 1 4 (mG ev (s9 s.1).Flight s.2 (nV (s9 s.1) [])).1),(mG ev (s9 s.1).Flight s.2 (nV (s9 s.1) [])).2)
def DZ (ev:Int):Nat→aC×List DKey→aC×List DKey
  | 0,s=>s
  | d+1,s=>DZ ev d (M3 ev s)
def RP (w:aC) (n ev:Int):aC:=if aS w∧(1≤ev∧ev≤10) then (DZ ev (min n 5000).toNat (w,[])).1 else W7
theorem Q9 (ev:Int):∀(t:List aE) (h:List DKey) (w:aC),(mG ev t h w).2.length=h.length+t.length
  | [],h,w=>rfl
  | p::t,h,w=>by simp only [mG,Q9 ev t];simp;omega
theorem PA (ev:Int):∀(t:List aE) (h:List DKey) (w:aC),aS w→vY t→aS (mG ev t h w).1
  | [],h,w,hw,_=>hw
  | p::t,h,w,hw,ht=>by
    simp only [mG]
    refine PA ev t _ _ ?_ (fun x hx=>ht x (by simp [hx]))
    split
    ·exact HN hw (ht p (by simp)).1
    ·exact hw
theorem CX {n:Int} (hn:1≤n∧n≤2):∀(d:Nat) (w:aC),aS w→aS (k9 n d w)
  | 0,w,h=>h
  | d+1,w,h=>by
    simp only [k9]
    split
    ·exact h
    ·exact CX hn d _ (OZ h hn)
theorem R7 {w:aC} (h:aS w):aS (nV w []):=u4 h (by simp) (fun p hp=>by cases hp)
theorem PU {ev:Int} {s:aC×List DKey} (h:aS s.1):aS (M3 ev s).1:=
  CX (by omega) 4 _ (CX (by omega) 4 _ (PA ev _ _ _ (R7 (D0 h)) (D0 h).2.2.2.2.2.1))
theorem M6 {ev:Int} {s:aC×List DKey} (h:aS s.1):(M3 ev s).2.length≤s.2.length+1000:=by
  unfold M3
  dsimp only
  rw [Q9]
  have:=(D0 h).2.2.1
  omega
theorem RR {ev:Int}:∀(d:Nat) (s:aC×List DKey),aS s.1→aS (DZ ev d s).1
  | 0,s,h=>h
  | d+1,s,h=>RR d _ (PU h)
theorem WR {w:aC} (h:aS w) {n ev:Int} (he:1≤ev∧ev≤10):aS (RP w n ev):=by
  unfold RP;rw [if_pos ⟨h,he⟩];exact RR _ _ h
def f6_ (m:List (DKey×Int)) (h:List DKey):Prop:=∀key,(RM key m).getD 0=(uB h key:Int)
section
variable (a b:ByteArray) (z:Int) (E2:List aN) (F2:List aE) (G2 T2:List aA) (Q:aC→Prop) (r ev:Int)
theorem hM_ (hev:1≤ev∧ev≤10) (len i:Int) (m:List (DKey×Int)) (p:aE) (L:List aE) (w:aC) (hw:aS w) (hp:av_ p) (c:Nat) (hm:cC (lI (pk p)) m 0=none∧c=0∨∃j,cC (lI (pk p)) m 0=some (j,(c:Int)))
    (go:∀w',w'=(if (c:Int)%ev=0 then oW w p else w)→Wp (fun k=>iN k r ev len (IntKind.wrap .i64 (i+1)) a z b w'.Key w'.Width w'.Forged m L E2 F2 G2 T2 w'.Ends w'.Flight w'.Given w'.Taken) Q):
    Wp (fun k=>cV k r ev len i a z b w.Key w.Width w.Forged m p.To p.Sent p.Bytes p.To p.Bytes L E2 F2 G2 T2 w.Ends w.Flight w.Given w.Taken) Q:=by
  have l19:∀w',w'=(if (c:Int)%ev=0 then oW w p else w)→Wp (fun k=>iJ k r ev len i a z b w'.Key w'.Width w'.Forged m L E2 F2 G2 T2 w'.Ends w'.Flight w'.Given w'.Taken) Q:=fun w' e=>by
    refine Wp.step ?_
    simp only [iJ]
    exact go w' e
  refine Wp.step ?_
  simp only [cV]
  rw [show (⟨p.To,p.Bytes⟩:DKey)=pk p from rfl]
  have br:=BS w hw p hp.1 (by have:=hp.2.2;omega)
  rcases hm with ⟨hm,hc⟩ | ⟨j,hm⟩
  ·subst hc
   simp only [hm,Km.optK]
   refine Wp.opt (kW (by omega) (by omega)) ?_
   simp only [kH]
   refine Wp.ite (fun e=> ?_) (fun e=> ?_)
   ·refine Wp.bind br (fun x hx=> ?_)
    exact l19 x (by rw [if_pos (by simp),hx])
   ·exact l19 w (absurd (Int.zero_emod ev) e)
  ·simp only [hm,Km.optK]
   refine Wp.opt (kW (by omega) (by omega)) ?_
   simp only [kH]
   refine Wp.ite (fun e=> ?_) (fun e=> ?_)
   ·refine Wp.bind br (fun x hx=> ?_)
    exact l19 x (by rw [if_pos e,hx])
   ·exact l19 w (by rw [if_neg e])
theorem hu_ (hev:1≤ev∧ev≤10) (L:List aE) (hL:L.length≤1000):∀(t pre:List aE) (m:List (DKey×Int)) (h:List DKey) (w:aC),pre++t=L→aS w→vY t→f6_ m h→h.length+t.length≤10000000→
    (∀m',f6_ m' (mG ev t h w).2→Wp (fun k=>eN k r ev 1 a z b (mG ev t h w).1.Key (mG ev t h w).1.Width (mG ev t h w).1.Forged m' E2 F2 G2 T2 (mG ev t h w).1.Ends (mG ev t h w).1.Flight (mG ev t h w).1.Given (mG ev t h w).1.Taken) Q)→
    Wp (fun k=>iN k r ev (L.length:Int) (pre.length:Int) a z b w.Key w.Width w.Forged m L E2 F2 G2 T2 w.Ends w.Flight w.Given w.Taken) Q
  | [],pre,m,h,w,he,hw,ht,hm,hh,go=>by
    have he':pre=L:=by simpa using he
    refine Wp.step ?_
    simp only [iN]
    refine Wp.dec (fun g=>by rw [he'] at g;omega) (fun _=>go m hm)
  | p::t,pre,m,h,w,he,hw,ht,hm,hh,go=>by
    have hl:pre.length+(t.length+1)≤1000:=by
      have:(pre++(p::t)).length≤1000:=by rw [he];exact hL
      simpa using this
    simp only [List.length_cons] at hh
    have hc:=SZ h (pk p)
    have nx:∀(m':List (DKey×Int)),f6_ m' (h++[pk p])→(∃j,cC (lI (pk p)) m' 0=some (j,((uB h (pk p)+1:Nat):Int)))→Wp (fun k=>cV k r ev (L.length:Int) (pre.length:Int) a z b w.Key w.Width w.Forged m' p.To p.Sent p.Bytes p.To p.Bytes L E2 F2 G2 T2 w.Ends w.Flight w.Given w.Taken) Q:=fun m' h' hf=>by
      refine hM_ a b z E2 F2 G2 T2 Q r ev hev (L.length:Int) (pre.length:Int) m' p L w hw (ht p (by simp)) (uB h (pk p)+1) (.inr hf) (fun w' e=> ?_)
      rw [bQ (n:=(pre.length:Int)+1) (by omega) (by omega)]
      have hw':aS w':=by
        rw [e];split
        ·exact HN hw (ht p (by simp)).1
        ·exact hw
      have:=hu_ hev L hL t (pre++[p]) m' (h++[pk p]) w' (by rw [←he];simp) hw' (fun x hx=>ht x (by simp [hx])) h' (by simp;omega) (by
        have e2:mG ev t (h++[pk p]) w'=mG ev (p::t) h w:=by simp only [mG];rw [e];push_cast;rfl
        rw [e2];exact go)
      rw [show ((pre++[p]).length:Int)=(pre.length:Int)+1 by simp] at this
      exact this
    refine Wp.step ?_
    simp only [iN]
    refine Wp.dec (fun _=> ?_) (fun g=>absurd (by rw [←he];simp;omega) g)
    rw [show idx L (pre.length:Int)=some p by rw [←he];exact bK,show L[Int.toNat (pre.length:Int)]? =some p by rw [←he,Int.toNat_natCast];simp]
    simp only [Option.bind_some]
    rw [show (⟨p.To,p.Bytes⟩:DKey)=pk p from rfl]
    have hmp:=hm (pk p)
    cases h4:cC (lI (pk p)) m 0 with
    | none=>
      have hn:=ND h4
      rw [hn] at hmp
      simp only [Option.getD_none] at hmp
      have hz:uB h (pk p)=0:=by omega
      simp only [Km.optK,wL h4,Nat.zero_add,kB,Int.toNat_natCast,O0]
      simp only [List.getElem?_append_right (Nat.le_refl _),Nat.sub_self,List.getElem?_cons_zero,Option.bind_some,mZ]
      rw [bQ (n:=0+1) (by omega) (by omega)]
      refine nx _ (fun key=> ?_) ⟨_,by rw [wL h4,hz];rfl⟩
      rw [K2 m hn,AD]
      by_cases e:key=pk p
      ·rw [if_pos e,if_pos e,e,hz];rfl
      ·rw [if_neg e,if_neg e,hm]
    | some q=>
      obtain ⟨j,c⟩:=q
      obtain ⟨d,e1,e2,e3,e4,e5⟩:=NP h4
      rw [Nat.zero_add] at e1;subst e1
      rw [e3] at hmp
      simp only [Option.getD_some] at hmp
      subst hmp
      simp only [Km.optK,kB,e2,Option.bind_some,Int.toNat_natCast,mZ]
      rw [bQ (n:=(uB h (pk p):Int)+1) (by omega) (by omega)]
      refine nx _ (fun key=> ?_) ⟨_,by rw [e5];rfl⟩
      rw [e4,AD]
      by_cases e:key=pk p
      ·rw [if_pos e,if_pos e,e];rfl
      ·rw [if_neg e,if_neg e,hm]
theorem gJ_ (m:List (DKey×Int)) (n:Int) (hn:1≤n∧n≤2):∀(d:Nat) (i:Int) (w:aC),i+d=4→0≤i→aS w→
    (Wp (fun k=>eN k r ev (IntKind.wrap .i64 (n+1)) a z b (k9 n d w).Key (k9 n d w).Width (k9 n d w).Forged m E2 F2 G2 T2 (k9 n d w).Ends (k9 n d w).Flight (k9 n d w).Given (k9 n d w).Taken) Q)→
    Wp (fun k=>kR k r ev n i a z b w.Key w.Width w.Forged m E2 F2 G2 T2 w.Ends w.Flight w.Given w.Taken) Q
  | 0,i,w,hi,h0,hw,go=>by
    refine Wp.step ?_
    simp only [kR]
    refine Wp.dec (fun g=>by omega) (fun _=>go)
  | d+1,i,w,hi,h0,hw,go=>by
    refine Wp.step ?_
    simp only [kR]
    refine Wp.dec (fun _=> ?_) (fun g=>by omega)
    obtain ⟨a1,a2,a3⟩:=vH hw.2.2.2.2.1 hn
    simp only [a1,a2,Option.bind_some]
    simp only [k9] at go
    refine Wp.dec (fun g=> ?_) (fun g=> ?_)
    ·rw [if_neg (fun e=>by rw [e] at g;simp at g)] at go
     refine Wp.bind (FK w hw n hn) (fun x hx=> ?_);subst hx
     rw [bQ (n:=i+1) (by omega) (by omega)]
     exact gJ_ m n hn d (i+1) (LL w n) (by omega) (by omega) (OZ hw hn) go
    ·rw [if_pos (by apply List.eq_nil_of_length_eq_zero;omega)] at go
     exact go
theorem ic7 (hev:1≤ev∧ev≤10):∀(d:Nat) (m:List (DKey×Int)) (s:aC×List DKey),aS s.1→f6_ m s.2→s.2.length+1000*d≤9000000→d≤9000→
    Wp (fun k=>iB k (d:Int) ev a z b s.1.Key s.1.Width s.1.Forged m E2 F2 G2 T2 s.1.Ends s.1.Flight s.1.Given s.1.Taken) (· =(DZ ev d s).1)
  | 0,m,s,hs,hm,hl,hd=>by
    refine Wp.step ?_
    simp only [iB]
    refine Wp.dec (fun g=>by omega) (fun _=>Wp.ret rfl)
  | d+1,m,s,hs,hm,hl,hd=>by
    refine Wp.step ?_
    simp only [iB]
    refine Wp.dec (fun _=> ?_) (fun g=>by omega)
    refine Wp.bind (FX s.1 hs) (fun x hx=> ?_);subst hx
    have ht:=D0 hs
    have htl:=ht.2.2.1
    refine hu_ a b z E2 F2 G2 T2 _ ((d+1:Nat):Int) ev hev (s9 s.1).Flight htl (s9 s.1).Flight [] m s.2 (nV (s9 s.1) []) rfl (R7 ht) ht.2.2.2.2.2.1 hm (by omega) (fun m' hm'=> ?_)
    have hf:=PA ev (s9 s.1).Flight s.2 (nV (s9 s.1) []) (R7 ht) ht.2.2.2.2.2.1
    refine Wp.step ?_
    simp only [eN]
    refine Wp.dec (fun _=> ?_) (fun g=>by omega)
    refine gJ_ a b z E2 F2 G2 T2 _ ((d+1:Nat):Int) ev m' 1 (by omega) 4 0 _ (by omega) (by omega) hf ?_
    rw [show IntKind.wrap .i64 (1+1)=2 by rfl]
    refine Wp.step ?_
    simp only [eN]
    refine Wp.dec (fun _=> ?_) (fun g=>by omega)
    refine gJ_ a b z E2 F2 G2 T2 _ ((d+1:Nat):Int) ev m' 2 (by omega) 4 0 _ (by omega) (by omega) (CX (by omega) 4 _ hf) ?_
    rw [show IntKind.wrap .i64 (2+1)=3 by rfl]
    refine Wp.step ?_
    simp only [eN]
    refine Wp.dec (fun g=>by omega) (fun _=> ?_)
    rw [bQ (n:=((d+1:Nat):Int)-1) (by omega) (by omega),show ((d+1:Nat):Int)-1=(d:Int) by omega]
    have hlen:=M6 (ev:=ev) hs
    exact ic7 hev d m' (M3 ev s) (PU hs) hm' (by omega) (by omega)
end
theorem WU (w:aC) (hb:w.Given.length≤1048576∧w.Taken.length≤1048576) (n ev:Int):Wp (fun k=>BV k w n ev) (· =RP w n ev):=by
  unfold BV RP
  refine Wp.bind (kP w hb) (fun _ e=> ?_);subst e
  refine Wp.not (fun h=>Wp.ret (by rw [if_neg (fun g=>of_decide_eq_false h g.1)];rfl)) (fun h=> ?_)
  have hv:=of_decide_eq_true h
  refine Wp.dec (fun h=>Wp.ret (by rw [if_neg (fun g=>by omega)];rfl)) (fun h1=> ?_)
  refine Wp.dec (fun h=>Wp.ret (by rw [if_neg (fun g=>by omega)];rfl)) (fun h2=> ?_)
  rw [if_pos ⟨hv,by omega⟩]
  refine Wp.bind (FZ w hv) (fun _ e=> ?_);have e'':=e.symm;subst e''
  have hm:f6_ [] []:=fun key=>rfl
  refine Wp.dec (fun h=> ?_) (fun h=> ?_)
  ·rw [show min n 5000=5000 by omega]
   exact ic7 noB noB 0 [] [] [] [] ev (by omega) 5000 [] (w,[]) hv hm (by simp) (by omega)
  ·by_cases h0:0≤n
   ·have:=ic7 noB noB 0 [] [] [] [] ev (by omega) n.toNat [] (w,[]) hv hm (by simp;omega) (by omega)
    rw [show min n 5000=n by omega]
    rw [Int.toNat_of_nonneg h0] at this
    exact this
   ·rw [show (min n 5000).toNat=0 by omega]
    refine Wp.step ?_
    simp only [iB]
    refine Wp.dec (fun g=>by omega) (fun _=>Wp.ret rfl)
def WZ (c:bT):DKey:=⟨c.to,c.bytes⟩
def B7 (key:DKey):List bT→Int
  | []=>0
  | c::l=>if WZ c=key then c.n else B7 key l
def go_ (S:List bT) (h:List DKey):Prop:=∀key,B7 key S=(uB h key:Int)
theorem xR {key:DKey} {l:List bT}:∀{pre:List bT},(∀c∈pre,WZ c≠key)→B7 key (pre++l)=B7 key l
  | [],_=>rfl
  | c::pre,h=>by
    simp only [List.cons_append,B7]
    rw [if_neg (h c (by simp)),xR (fun x hx=>h x (by simp [hx]))]
theorem PT {key:DKey} {l l':List bT} (h:B7 key l=B7 key l'):∀(pre:List bT),B7 key (pre++l)=B7 key (pre++l')
  | []=>h
  | c::pre=>by
    simp only [List.cons_append,B7]
    rw [PT h pre]
theorem set_mid {α:Type} (pre t:List α) (y y':α):(pre++y::t).set pre.length y'=pre++y'::t:=by simp
theorem I7 (ev:Int) (hev:1≤ev∧ev≤10) (p:aE) (S:List bT) (hS:S.length≤20000000) (hb:0≤B7 (pk p) S∧B7 (pk p) S≤20000000):∀(t pre:List bT),pre++t=S→(∀c∈pre,WZ c≠pk p)→
    Wp (fun k=>dG k ev (pre.length:Int) S p.To p.Sent p.Bytes) (fun r=>r.2=decide ((B7 (pk p) S+1)%ev=0)∧(∀key,B7 key r.1=if key=pk p then B7 (pk p) S+1 else B7 key S)∧r.1.length≤S.length+1)
  | [],pre,he,hn=>by
    have he':pre=S:=by simpa using he
    refine Wp.step ?_
    simp only [dG]
    refine Wp.dec (fun g=>by rw [he'] at g;omega) (fun _=> ?_)
    refine Wp.opt (bP (by simp;omega)) ?_
    have h0:B7 (pk p) S=0:=by rw [←he,xR hn];rfl
    refine Wp.ret ⟨?_,fun key=> ?_,by simp⟩
    ·dsimp only
     rw [h0,Bool.eq_iff_iff]
     simp only [beq_iff_eq,decide_eq_true_eq]
     constructor
     ·intro e;subst e;rfl
     ·intro e
      by_cases h1:ev=1
      ·exact h1
      ·rw [Int.emod_eq_of_lt (by omega) (by omega)] at e;omega
    ·by_cases e:key=pk p
     ·rw [if_pos e,e,h0,←he',xR hn]
      simp [B7,WZ,pk]
     ·rw [if_neg e]
      have:B7 key ([(⟨p.To,p.Bytes,1⟩:bT)])=B7 key []:=by
        simp only [B7];rw [if_neg (fun g=>e g.symm)]
      have:=PT this S
      simpa using this
  | y::t,pre,he,hn=>by
    have hl:pre.length+(t.length+1)≤20000000:=by
      have:(pre++(y::t)).length≤20000000:=by rw [he];exact hS
      simpa using this
    refine Wp.step ?_
    simp only [dG]
    refine Wp.dec (fun _=> ?_) (fun g=>absurd (by rw [←he];simp;omega) g)
    have i1:idx S (pre.length:Int)=some y:=by rw [←he];exact bK
    have i2:S[Int.toNat (pre.length:Int)]? =some y:=by rw [←he,Int.toNat_natCast];simp
    simp only [i1,i2,Option.bind_some,kH,oA]
    have nx:WZ y≠pk p→Wp (fun k=>dG k ev (IntKind.wrap .i64 ((pre.length:Int)+1)) S p.To p.Sent p.Bytes) (fun r=>r.2=decide ((B7 (pk p) S+1)%ev=0)∧(∀key,B7 key r.1=if key=pk p then B7 (pk p) S+1 else B7 key S)∧r.1.length≤S.length+1):=fun hne=>by
      rw [bQ (n:=(pre.length:Int)+1) (by omega) (by omega)]
      have:=I7 ev hev p S hS hb t (pre++[y]) (by rw [←he];simp) (fun c hc=>by
        simp only [List.mem_append,List.mem_cons,List.not_mem_nil,or_false] at hc
        rcases hc with hc | rfl
        ·exact hn c hc
        ·exact hne)
      rw [show ((pre++[y]).length:Int)=(pre.length:Int)+1 by simp] at this
      exact this
    refine Wp.ite (fun e1=> ?_) (fun e1=>nx (fun g=>e1 (congrArg DKey.to g)))
    refine Wp.ite (fun e2=> ?_) (fun e2=>nx (fun g=>e2 (congrArg DKey.bytes g)))
    have hk:WZ y=pk p:=by simp [WZ,pk,e1,e2]
    have hy:B7 (pk p) S=y.n:=by rw [←he,xR hn];simp only [B7];rw [if_pos hk]
    rw [bQ (n:=y.n+1) (by omega) (by omega)]
    have es:∀y':bT,S.set (Int.toNat (pre.length:Int)) y'=pre++y'::t:=fun y'=>by rw [Int.toNat_natCast,←he];exact set_mid pre t y y'
    simp only [es]
    have j1:∀y':bT,idx (pre++y'::t) (pre.length:Int)=some y':=fun y'=>bK
    have j2:∀y':bT,(pre++y'::t)[Int.toNat (pre.length:Int)]? =some y':=fun y'=>by rw [Int.toNat_natCast];simp
    simp only [j1,j2,Option.bind_some]
    refine Wp.opt (kW (by omega) (by omega)) ?_
    refine Wp.ret ⟨?_,fun key=> ?_,by rw [←he];simp⟩
    ·dsimp only
     rw [hy,Bool.eq_iff_iff];simp
    ·dsimp only
     by_cases e:key=pk p
     ·rw [if_pos e,e,hy,xR hn]
      simp only [B7]
      rw [if_pos (by rw [←hk];rfl)]
     ·rw [if_neg e,←he]
      apply PT
      simp only [B7]
      rw [if_neg (fun g=>e (by rw [←g,←hk];rfl)),if_neg (fun g=>e (by rw [←g,←hk]))]
theorem aS_ (ev:Int) (hev:1≤ev∧ev≤10) (p:aE) (S:List bT) (h:List DKey) (hc:go_ S h) (hS:S.length≤h.length) (hh:h.length≤10000000):Wp (fun k=>pY k S p ev) (fun r=>r.2=decide (((uB h (pk p):Int)+1)%ev=0)∧go_ r.1 (h++[pk p])∧r.1.length≤(h++[pk p]).length):=by
  unfold pY
  have hk:=SZ h (pk p)
  have hb:=hc (pk p)
  refine (I7 ev hev p S (by omega) (by omega) S [] rfl (fun c hc=>by cases hc)).mono fun r hr=> ?_
  refine ⟨by rw [hr.1,hb],fun key=> ?_,by have:=hr.2.2;simp;omega⟩
  rw [hr.2.1,AD]
  by_cases e:key=pk p
  ·rw [if_pos e,if_pos e,hb,e];rfl
  ·rw [if_neg e,if_neg e,hc]
theorem WO (w:aC) (fl:List aE) (p:aE):oW (nV w fl) p=nV (oW w p) fl:=by
  unfold oW
  by_cases h:(PY p.Bytes w.Key w.Width).2=true
  ·rw [if_pos (show (PY p.Bytes (nV w fl).Key (nV w fl).Width).2=true from h),if_pos h];rfl
  ·rw [if_neg (show¬(PY p.Bytes (nV w fl).Key (nV w fl).Width).2=true from h),if_neg h]
theorem c0_ (w:aC) (p:aE):(oW w p).Flight=w.Flight:=by unfold oW;split<;>rfl
theorem YT (ev:Int):∀(t:List aE) (h:List DKey) (w:aC),(mG ev t h w).1.Flight=w.Flight
  | [],h,w=>rfl
  | p::t,h,w=>by
    simp only [mG,YT ev t]
    split
    ·exact c0_ w p
    ·rfl
theorem ZU (w:aC) (n:Int) (x y:Int) (t:ByteArray):BX w ⟨11,n,x,y,t⟩=LL w n:=by
  unfold BX;dsimp only;rw [if_neg (by omega),if_neg (by omega),if_neg (by omega)]
section
variable (a b:ByteArray) (z:Int) (E2:List aN) (F2:List aE) (G2 T2:List aA) (Q:aC→Prop) (r ev i:Int)
theorem sc9 (hev:1≤ev∧ev≤10):∀(t:List aE) (S:List bT) (h:List DKey) (w:aC),aS w→vY t→t.length≤1000→go_ S h→S.length≤h.length→h.length+t.length≤10000000→
    (∀S',go_ S' (mG ev t h w).2→S'.length≤(mG ev t h w).2.length→Wp (fun k=>eO k r ev i 1 a z b (mG ev t h w).1.Key (mG ev t h w).1.Width (mG ev t h w).1.Forged S' E2 F2 G2 T2 (mG ev t h w).1.Ends [] (mG ev t h w).1.Given (mG ev t h w).1.Taken) Q)→
    Wp (fun k=>kA k r ev i a z b w.Key w.Width w.Forged S E2 F2 G2 T2 w.Ends t w.Given w.Taken) Q
  | [],S,h,w,hw,ht,hl,hc,hS,hh,go=>by
    refine Wp.step ?_
    simp only [kA]
    refine Wp.dec (fun g=>by simp at g) (fun _=>go S hc hS)
  | p::t,S,h,w,hw,ht,hl,hc,hS,hh,go=>by
    simp only [List.length_cons] at hl hh
    refine Wp.step ?_
    simp only [kA]
    refine Wp.dec (fun _=> ?_) (fun g=>absurd (by simp) g)
    rw [show idx (p::t) 0=some p from rfl,show (p::t)[Int.toNat 0]? =some p from rfl]
    simp only [Option.bind_some]
    have hwf:aS (nV w (p::t)):=u4 hw (by simp;omega) ht
    refine Wp.bind (aS_ ev hev p S h hc hS (by omega)) ?_
    rintro ⟨S',ps⟩ ⟨e1,e2,e3⟩
    dsimp only at e1 e2 e3⊢
    simp only [mG] at go
    refine Wp.bif (fun hp=> ?_) (fun hp=> ?_)
    ·rw [hp] at e1
     rw [if_pos (of_decide_eq_true e1.symm)] at go
     have hb:=DA (nV w (p::t)) hwf 0 (p:=p) rfl
     refine Wp.bind hb (fun x hx=> ?_)
     have hx':x=nV (oW w p) t:=by rw [hx,←WO];rfl
     subst hx'
     exact sc9 hev t S' (h++[pk p]) (oW w p) (HN hw (ht p (by simp)).1) (fun x hx=>ht x (by simp [hx])) (by omega) e2 e3 (by simp;omega) go
    ·rw [hp] at e1
     rw [if_neg (of_decide_eq_false e1.symm)] at go
     refine Wp.bind (EH (p::t) 0 (by simp) (by simp;omega)) (fun x hx=> ?_)
     have hx':x=t:=hx
     subst hx'
     exact sc9 hev x S' (h++[pk p]) w hw (fun x hx=>ht x (by simp [hx])) (by omega) e2 e3 (by simp;omega) go
theorem g8_ (S:List bT) (n:Int) (hn:1≤n∧n≤2):∀(d:Nat) (j:Int) (w:aC),j+d=4→0≤j→aS w→
    (Wp (fun k=>eO k r ev i (IntKind.wrap .i64 (n+1)) a z b (k9 n d w).Key (k9 n d w).Width (k9 n d w).Forged S E2 F2 G2 T2 (k9 n d w).Ends (k9 n d w).Flight (k9 n d w).Given (k9 n d w).Taken) Q)→
    Wp (fun k=>kS k r ev i n j a z b w.Key w.Width w.Forged S E2 F2 G2 T2 w.Ends w.Flight w.Given w.Taken) Q
  | 0,j,w,hi,h0,hw,go=>by
    refine Wp.step ?_
    simp only [kS]
    refine Wp.dec (fun g=>by omega) (fun _=>go)
  | d+1,j,w,hi,h0,hw,go=>by
    refine Wp.step ?_
    simp only [kS]
    refine Wp.dec (fun _=> ?_) (fun g=>by omega)
    obtain ⟨a1,a2,a3⟩:=vH hw.2.2.2.2.1 hn
    simp only [a1,a2,Option.bind_some]
    simp only [k9] at go
    refine Wp.dec (fun g=> ?_) (fun g=> ?_)
    ·rw [if_neg (fun e=>by rw [e] at g;simp at g)] at go
     refine Wp.bind (N0 w hw ⟨11,n,0,0,noB⟩ (by dsimp only;omega) hn) (fun x hx=> ?_)
     rw [ZU] at hx;subst hx
     rw [bQ (n:=j+1) (by omega) (by omega)]
     exact g8_ S n hn d (j+1) (LL w n) (by omega) (by omega) (OZ hw hn) go
    ·rw [if_pos (by apply List.eq_nil_of_length_eq_zero;omega)] at go
     exact go
theorem sc6 (hev:1≤ev∧ev≤10):∀(d:Nat) (i:Int) (S:List bT) (s:aC×List DKey),d=(min r 5000-i).toNat→0≤i∧i≤5000→aS s.1→go_ S s.2→S.length≤s.2.length→s.2.length+1000*d≤9000000→
    Wp (fun k=>mK k r ev i a z b s.1.Key s.1.Width s.1.Forged S E2 F2 G2 T2 s.1.Ends s.1.Flight s.1.Given s.1.Taken) (· =(DZ ev d s).1)
  | 0,i,S,s,hd,hi,hs,hm,hS,hl=>by
    refine Wp.step ?_
    simp only [mK]
    have cp:Wp (fun k=>(iL k s.1).bind fun x=>some x) (· =(DZ ev 0 s).1):=by
      refine Wp.bind (sH s.1 hs) (fun x hx=> ?_)
      exact Wp.ret hx
    refine Wp.dec (fun g=> ?_) (fun _=>cp)
    refine Wp.dec (fun g=>by omega) (fun _=>cp)
  | d+1,i,S,s,hd,hi,hs,hm,hS,hl=>by
    refine Wp.step ?_
    simp only [mK]
    refine Wp.dec (fun _=> ?_) (fun g=>by omega)
    refine Wp.dec (fun _=> ?_) (fun g=>by omega)
    refine Wp.bind (E1 s.1 hs) (fun x hx=> ?_);subst hx
    have ht:=D0 hs
    have htl:=ht.2.2.1
    refine sc9 a b z E2 F2 G2 T2 _ r ev i hev (s9 s.1).Flight S s.2 (nV (s9 s.1) []) (R7 ht) ht.2.2.2.2.2.1 htl hm hS (by omega) (fun S' hm' hS'=> ?_)
    have hf:=PA ev (s9 s.1).Flight s.2 (nV (s9 s.1) []) (R7 ht) ht.2.2.2.2.2.1
    have hfl:(mG ev (s9 s.1).Flight s.2 (nV (s9 s.1) [])).1.Flight=[]:=YT ev _ _ _
    generalize hX:mG ev (s9 s.1).Flight s.2 (nV (s9 s.1) [])=X at hf hfl hm' hS'⊢
    rw [←hfl]
    refine Wp.step ?_
    simp only [eO]
    refine Wp.dec (fun _=> ?_) (fun g=>by omega)
    refine g8_ a b z E2 F2 G2 T2 _ r ev i S' 1 (by omega) 4 0 _ (by omega) (by omega) hf ?_
    rw [show IntKind.wrap .i64 (1+1)=2 by rfl]
    refine Wp.step ?_
    simp only [eO]
    refine Wp.dec (fun _=> ?_) (fun g=>by omega)
    refine g8_ a b z E2 F2 G2 T2 _ r ev i S' 2 (by omega) 4 0 _ (by omega) (by omega) (CX (by omega) 4 _ hf) ?_
    rw [show IntKind.wrap .i64 (2+1)=3 by rfl]
    refine Wp.step ?_
    simp only [eO]
    refine Wp.dec (fun g=>by omega) (fun _=> ?_)
    rw [bQ (n:=i+1) (by omega) (by omega)]
    have hlen:=M6 (ev:=ev) hs
    subst hX
    exact sc6 hev d (i+1) S' (M3 ev s) (by omega) (by omega) (PU hs) hm' hS' (by omega)
end
theorem VH (w:aC) (hb:w.Given.length≤1048576∧w.Taken.length≤1048576) (n ev:Int):Wp (fun k=>xY k w n ev) (· =RP w n ev):=by
  unfold xY RP
  refine Wp.bind (kI w hb) (fun _ e=> ?_);subst e
  refine Wp.not (fun h=>Wp.ret (by rw [if_neg (fun g=>of_decide_eq_false h g.1)];rfl)) (fun h=> ?_)
  have hv:=of_decide_eq_true h
  refine Wp.bind (dM _ _ _) (fun _ e=> ?_);subst e
  refine Wp.not (fun h=> ?_) (fun h=> ?_)
  ·simp only [Bool.and_eq_false_iff,decide_eq_false_iff_not] at h
   exact Wp.ret (by rw [if_neg (fun g=>by omega)];rfl)
  simp only [Bool.and_eq_true,decide_eq_true_eq] at h
  rw [if_pos ⟨hv,h⟩]
  refine Wp.bind (sH w hv) (fun _ e=> ?_);have e'':=e.symm;subst e''
  exact sc6 noB noB 0 [] [] [] [] n ev h (min n 5000).toNat 0 [] (w,[]) (by omega) (by omega) hv (fun key=>rfl) (by simp) (by simp;omega)
theorem NC {y:Int} (h:EG y):0≤y∧y≤255:=by
  unfold EG at h
  simp [Lit.wf,IntKind.min,IntKind.max,IntKind.signed,IntKind.bits] at h
  omega
def Rd (n:Int) (r:bF):Prop:=r.b.length≤2000∧(∀y∈r.b,0≤y∧y≤255)∧0≤r.p∧r.p≤n
theorem Rd.mono {n m:Int} {r:bF} (h:Rd n r) (hm:n≤m):Rd m r:=⟨h.1,h.2.1,h.2.2.1,by have:=h.2.2.2;omega⟩
theorem fD_ (n m:Nat) (hn:n<2^62) (hm:m<2^62):vG .i64 (n:Int) (m:Int)=((n^^^m:Nat):Int):=by
  have e:∀m:Nat,BitVec.ofInt 64 (m:Int)=BitVec.ofNat 64 m:=fun m=>by
    apply BitVec.eq_of_toNat_eq
    simp [BitVec.toNat_ofInt]
  have hx:=Nat.xor_lt_two_pow hn hm
  show IntKind.wrap .i64 ((BitVec.ofInt 64 ((n:Nat):Int)^^^BitVec.ofInt 64 ((m:Nat):Int)).toNat:Int)=_
  rw [e,e,BitVec.toNat_xor,BitVec.toNat_ofNat,BitVec.toNat_ofNat,Nat.mod_eq_of_lt (by omega),Nat.mod_eq_of_lt (by omega)]
  exact bQ (by omega) (by omega)
theorem VS {xs:List Int} {i:Int} (h:0≤i) (h':i<xs.length):∃y∈xs,idx xs i=some y:=by
  have hlt:i.toNat<xs.length:=by omega
  have:=ST hlt
  rw [Int.toNat_of_nonneg h] at this
  exact ⟨_,List.getElem_mem hlt,this⟩
theorem vI (r:bF) (n a:Int) (h:Rd n r) (hn:n≤1000000) (ha:1≤a∧a≤1000000):Wp (fun k=>aO k r a) (fun v=>(0≤v.1∧v.1<a)∧Rd (n+1) v.2):=by
  obtain ⟨h1,h2,h3,h4⟩:=h
  have R1:Rd (n+1) ⟨r.b,r.p+1⟩:=⟨h1,h2,by simp only;omega,by simp only;omega⟩
  unfold aO
  rw [bQ (n:=r.p+1) (by omega) (by omega),bQ (n:=r.p+1-1) (by omega) (by omega),show r.p+1-1=r.p by omega]
  simp only [aJ,kH]
  refine Wp.ite (fun h=>by omega) (fun _=> ?_)
  refine Wp.ite (fun h=>Wp.ret ⟨⟨by omega,by omega⟩,R1⟩) (fun h5=> ?_)
  refine Wp.ite (fun h6=> ?_) (fun h6=> ?_)
  ·obtain ⟨y,hy,e⟩:=VS h3 h6
   have hy:=h2 y hy
   refine Wp.opt e ?_
   rw [bQ (by omega) (by omega)]
   refine Wp.opt (kW (by omega) (by omega)) ?_
   exact Wp.ret ⟨⟨Int.emod_nonneg _ (by omega),Int.emod_lt_of_pos _ (by omega)⟩,R1⟩
  ·refine Wp.opt (kW h3 (by omega)) ?_
   obtain ⟨y,hy,e⟩:=VS (xs:=r.b) (Int.emod_nonneg r.p (b:=r.b.length) (by omega)) (Int.emod_lt_of_pos _ (by omega))
   have hy:=h2 y hy
   refine Wp.opt e ?_
   rw [bQ (n:=r.p*7) (by omega) (by omega),bQ (n:=r.p*7+3) (by omega) (by omega)]
   refine Wp.opt (kW (by omega) (by omega)) ?_
   obtain ⟨z,hz,e⟩:=VS (xs:=r.b) (Int.emod_nonneg (r.p*7+3) (b:=r.b.length) (by omega)) (Int.emod_lt_of_pos _ (by omega))
   have hz:=h2 z hz
   refine Wp.opt e ?_
   refine Wp.opt (uV h3 (by omega)) ?_
   have hd0:0≤r.p/(r.b.length:Int):=Int.ediv_nonneg h3 (by omega)
   have hd1:r.p/(r.b.length:Int)≤r.p:=Int.ediv_le_self _ h3
   generalize r.p/(r.b.length:Int)=d at*
   rw [bQ (n:=y) (by omega) (by omega),bQ (n:=z) (by omega) (by omega),bQ (n:=d) (by omega) (by omega),bQ (n:=y*131) (by omega) (by omega),bQ (n:=z*1117) (by omega) (by omega),bQ (n:=r.p*29) (by omega) (by omega),bQ (n:=d*53) (by omega) (by omega),bQ (n:=y*131+z*1117) (by omega) (by omega),bQ (n:=y*131+z*1117+r.p*29) (by omega) (by omega),bQ (n:=y*131+z*1117+r.p*29+d*53) (by omega) (by omega)]
   have hv:0≤y*131+z*1117+r.p*29+d*53∧y*131+z*1117+r.p*29+d*53≤1000000000:=by omega
   generalize y*131+z*1117+r.p*29+d*53=v at*
   refine Wp.opt (uV hv.1 (by omega)) ?_
   rw [bQ (n:=v/64) (by omega) (by omega)]
   obtain ⟨m,rfl⟩:=Int.eq_ofNat_of_zero_le hv.1
   rw [show ((m:Int)/64)=((m/64:Nat):Int) by omega,fD_ _ _ (by omega) (by omega)]
   refine Wp.opt (kW (by omega) (by omega)) ?_
   exact Wp.ret ⟨⟨Int.emod_nonneg _ (by omega),Int.emod_lt_of_pos _ (by omega)⟩,R1⟩
theorem d4_ (a:List Int) (h:∀y∈a,EG y):Wp (fun k=>vF k a) (Rd 0):=by
  unfold vF
  simp only [aJ]
  refine Wp.ite (fun h1=> ?_) (fun h1=> ?_)
  ·refine Wp.opt (bX (by omega)) ?_
   refine Wp.step ?_
   simp only [lD]
   refine Wp.ret ⟨by simp [iA];omega,fun y hy=>NC (h y ?_),by simp,by simp⟩
   simp only [iA] at hy
   exact List.mem_of_mem_take (List.mem_of_mem_drop hy)
  ·refine Wp.step ?_
   simp only [lD]
   exact Wp.ret ⟨by simp only;omega,fun y hy=>NC (h y hy),by simp,by simp⟩
theorem TA:∀(n:Nat) (s acc:ByteArray),n≤1000000→acc.size+s.size*n≤1000000→Wp (fun k=>gM k s (n:Int) acc) (fun r=>r.size=acc.size+s.size*n)
  | 0,s,acc,hn,h=>by
    refine Wp.step ?_
    simp only [gM]
    simp (disch:=omega) only [aJ,if_neg]
    exact Wp.ret (by simp)
  | n+1,s,acc,hn,h=>by
    have hs:s.size≤s.size*(n+1):=Nat.le_mul_of_pos_right _ (by omega)
    have hle:(s++s).size*((n+1)/2)+s.size*((n+1)%2)=s.size*(n+1):=by
      rw [aD]
      have:=Nat.div_add_mod (n+1) 2
      calc (s.size+s.size)*((n+1)/2)+s.size*((n+1)%2)=s.size*(2*((n+1)/2)+(n+1)%2):=by rw [Nat.mul_add,←Nat.two_mul,Nat.mul_comm 2 s.size,Nat.mul_assoc]
        _=s.size*(n+1):=by rw [this]
    have G:∀acc':ByteArray,acc'.size=acc.size+s.size*((n+1)%2)→Wp (fun k=>k8 k s ((n+1:Nat):Int) acc') (fun r=>r.size=acc.size+s.size*(n+1)):=fun acc' h'=>by
      refine Wp.step ?_
      simp only [k8]
      refine Wp.opt (aP (by omega)) ?_
      refine Wp.opt (uV (by omega) (by omega)) ?_
      rw [bQ (by omega) (by omega),show ((n+1:Nat):Int)/2=(((n+1)/2:Nat):Int) by omega]
      exact (TA ((n+1)/2) (s++s) acc' (by omega) (by omega)).mono fun r hr=>by rw [hr];omega
    refine Wp.step ?_
    simp only [gM]
    simp (disch:=omega) only [aJ,if_pos,kH]
    refine Wp.opt (kW (by omega) (by omega)) ?_
    refine Wp.ite (fun h1=> ?_) (fun h1=> ?_)
    ·have e:(n+1)%2=1:=by omega
     refine Wp.opt (aP (by omega)) ?_
     exact G _ (by rw [aD,e];omega)
    ·have e:(n+1)%2=0:=by omega
     exact G _ (by rw [e];omega)
theorem PH (s:ByteArray) (n:Int) (B:Nat) (hB:B≤1000000) (h:s.size*n.toNat≤B) (hn1:n≤1000000):Wp (fun k=>mC k s n) (fun r=>r.size≤B):=by
  unfold mC
  by_cases hn:0≤n
  ·have e0:(⟨#[]⟩:ByteArray).size=0:=rfl
   have:=TA n.toNat s (⟨#[]⟩:ByteArray) (by omega) (by rw [e0];omega)
   rw [Int.toNat_of_nonneg hn] at this
   exact this.mono fun r hr=>by rw [hr,e0];omega
  ·refine Wp.step ?_
   simp only [gM]
   simp (disch:=omega) only [aJ,if_neg]
   exact Wp.ret (Nat.zero_le _)
theorem E5:∀(d:Nat) (n:Int) (r:bF) (s:ByteArray),Rd n r→n+d≤900000→s.size+d≤100→Wp (fun k=>d8 k s (d:Int) r.b r.p) (fun v=>v.1.size≤s.size+d∧Rd (n+d) v.2)
  | 0,n,r,s,h,hn,hs=>by
    refine Wp.step ?_
    simp only [d8]
    simp (disch:=omega) only [aJ,if_neg]
    exact Wp.ret ⟨by simp,by simpa using h⟩
  | d+1,n,r,s,h,hn,hs=>by
    refine Wp.step ?_
    simp only [d8]
    simp (disch:=omega) only [aJ,if_pos]
    refine Wp.bind (vI r n 5 h (by omega) (by omega)) ?_
    rintro ⟨q,r'⟩ ⟨hq,hr'⟩
    have e5:(⟨#[97,98,99,100,32]⟩:ByteArray).size=5:=rfl
    simp only at hq
    dsimp only
    refine Wp.opt (bX (by rw [e5];omega)) ?_
    dsimp only
    refine Wp.opt (bX (by simp only [ByteArray.size_extract,e5];omega)) ?_
    dsimp only
    refine Wp.opt (aP (by simp only [ByteArray.size_extract,e5];omega)) ?_
    rw [bQ (by omega) (by omega),show ((d+1:Nat):Int)-1=(d:Int) by omega]
    have hsz:∀u:ByteArray,(s++u.extract (0:Int).toNat (1:Int).toNat).size≤s.size+1:=fun u=>by
      rw [aD,ByteArray.size_extract];omega
    have hz:=hsz ((⟨#[97,98,99,100,32]⟩:ByteArray).extract q.toNat (((⟨#[97,98,99,100,32]⟩:ByteArray).size:Int)).toNat)
    exact (E5 d (n+1) r' _ hr' (by omega) (by omega)).mono fun v hv=>⟨by omega,hv.2.mono (by omega)⟩
theorem Y6 (r:bF) (n:Int) (h:Rd n r) (hn:0≤n∧n≤800000):Wp (fun k=>oQ k r) (fun v=>v.1.size≤190∧Rd (n+40) v.2):=by
  unfold oQ
  refine Wp.bind (vI r n 8 h (by omega) (by omega)) ?_
  rintro ⟨q,r1⟩ ⟨hq,h1⟩
  simp only at hq
  simp only [kH]
  refine Wp.ite (fun _=>Wp.ret ⟨Nat.zero_le _,h1.mono (by omega)⟩) (fun _=> ?_)
  refine Wp.ite (fun _=> ?_) (fun _=> ?_)
  ·refine Wp.bind (vI r1 _ 5 h1 (by omega) (by omega)) ?_
   rintro ⟨q2,r2⟩ ⟨hq2,h2⟩
   refine Wp.bind (vI r2 _ 3 h2 (by omega) (by omega)) ?_
   rintro ⟨q3,r3⟩ ⟨hq3,h3⟩
   refine Wp.bind (vI r3 _ 2 h3 (by omega) (by omega)) ?_
   rintro ⟨q4,r4⟩ ⟨hq4,h4⟩
   refine Wp.bind (vI r4 _ 2 h4 (by omega) (by omega)) ?_
   rintro ⟨q5,r5⟩ ⟨hq5,h5⟩
   simp only at hq2 hq3 hq4 hq5⊢
   have hm:0≤q4*q5∧q4*q5≤1:=by
     have:q4=0∨q4=1:=by omega
     rcases this with rfl | rfl<;>omega
   generalize q4*q5=m at*
   simp (disch:=omega) only [bQ]
   refine Wp.bind (PH _ _ 190 (by omega) (by show 1*_≤190;omega) (by omega)) (fun u hu=> ?_)
   exact Wp.ret ⟨hu,h5.mono (by omega)⟩
  refine Wp.ite (fun _=> ?_) (fun _=> ?_)
  ·refine Wp.bind (vI r1 _ 19 h1 (by omega) (by omega)) ?_
   rintro ⟨q2,r2⟩ ⟨hq2,h2⟩
   simp only at hq2⊢
   simp (disch:=omega) only [bQ]
   refine Wp.bind (PH _ _ 190 (by omega) (by show 10*_≤190;omega) (by omega)) (fun u hu=> ?_)
   exact Wp.ret ⟨hu,h2.mono (by omega)⟩
  refine Wp.ite (fun _=>Wp.ret ⟨by show 2≤190;omega,h1.mono (by omega)⟩) (fun _=> ?_)
  refine Wp.bind (vI r1 _ 30 h1 (by omega) (by omega)) ?_
  rintro ⟨q2,r2⟩ ⟨hq2,h2⟩
  simp only at hq2⊢
  simp (disch:=omega) only [bQ]
  have:=E5 (1+q2).toNat _ r2 (⟨#[]⟩:ByteArray) h2 (by omega) (by show 0+_≤100;omega)
  rw [Int.toNat_of_nonneg (by omega)] at this
  exact this.mono fun v hv=>⟨by have:=hv.1;have e0:(⟨#[]⟩:ByteArray).size=0:=rfl;rw [e0] at this;omega,hv.2.mono (by omega)⟩
theorem ey_ {α:Type} {xs:List α} {i:Int} (h:0≤i) (h':i<xs.length):∃y∈xs,idx xs i=some y∧xs[i.toNat]? =some y:=by
  have hlt:i.toNat<xs.length:=by omega
  have:=ST hlt
  rw [Int.toNat_of_nonneg h] at this
  exact ⟨_,List.getElem_mem hlt,this,List.getElem?_eq_getElem hlt⟩
theorem Wp.pick {R:Type} {Q:R→Prop} {g:Nat→Int×bF→Option R} {r:bF} {n a:Int} (h:Rd n r) (hn:n≤1000000) (ha:1≤a∧a≤1000000) (H:∀q r',0≤q→q<a→Rd (n+1) r'→Wp (fun k=>g k (q,r')) Q):Wp (fun k=>(aO k r a).bind (g k)) Q:=
  Wp.bind (vI r n a h hn ha) (fun v hv=>H v.1 v.2 hv.1.1 hv.1.2 hv.2)
theorem Wp.from {R α:Type} {Q:R→Prop} {xs:List α} {i:Int} {g:Nat→α→Option R} (h0:0≤i) (h1:i<xs.length) (H:∀y∈xs,Wp (fun k=>g k y) Q):Wp (fun k=>(idx xs i).bind (g k)) Q:=by
  obtain ⟨y,hy,e,_⟩:=ey_ h0 h1
  exact Wp.opt e (H y hy)
end Km.X
