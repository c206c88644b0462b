/- A part of the proof of FnTop: plain laws of these functions. There is no condition. -/
import Derived.Test.YtgffmpjadffjkaaGreatKyPureTop3
import Derived.Test.YtgffmpjadffjkaaGreatKyPureTop2
import Derived.Test.YtgffmpjadffjkaaGreatKxDef2
namespace Km.X
open Go Km
set_option linter.unusedVariables false
set_option linter.unusedSimpArgs false
section
variable {S:Nat} {A:Int→Int} {Gi:List aa_} {ev:Int}
def ExtK (A:Int→Int) (w w':ac_):Prop:=∃L,w'.Taken=w.Taken++L∧∀r∈L,kf r=⟨1,A 1,A 2⟩∨kf r=⟨2,A 2,A 1⟩
theorem ExtK.same {w w':ac_} (h:w'.Taken=w.Taken):ExtK A w w':=⟨[],by simp [h],fun r hr=>by cases hr⟩
theorem ExtK.trans {w x y:ac_} (h:ExtK A w x) (g:ExtK A x y):ExtK A w y:=by
  obtain ⟨L,h1,h2⟩:=h
  obtain ⟨M,g1,g2⟩:=g
  refine ⟨L++M,by rw [g1,h1,List.append_assoc],fun r hr=> ?_⟩
  rcases List.mem_append.mp hr with hr | hr
  ·exact h2 r hr
  ·exact g2 r hr
end
theorem r4_ (w:ac_) {n:Int} (hn:1≤n∧n≤2):doW w ⟨9,n,0,0,noB⟩=r6_ w n (jn_ (af_ n w.Ends)):=by
  rw [wp_ (by dsimp only;omega) hn]
  rfl
theorem AI_ {e:an_} (h:VEnd e) (hl:e.Life<1000):(jn_ e).Up=true:=by
  unfold jn_
  rw [if_pos h]
  split
  ·rename_i hu;exact hu
  ·rw [if_neg (by omega)]
theorem CZ_ {w:ac_} (hV:au_ w) (hl:∀n,1≤n∧n≤2→(af_ n w.Ends).Life<1000):∀n,1≤n∧n≤2→(af_ n (doW (doW w ⟨9,1,0,0,noB⟩) ⟨9,2,0,0,noB⟩).Ends).Up=true:=fun n hn=>by
  have v1:=yK_ hV ⟨9,1,0,0,noB⟩
  have hE:=hV.2.2.2.2.1
  have hE1:=v1.2.2.2.2.1
  rw [r4_ _ (by omega)]
  show (af_ n (c1_ 2 _ _)).Up=true
  rw [bz_ hE1 (by omega) hn]
  split
  ·refine AI_ (a6_ hE1 (by omega)).1 ?_
   rw [r4_ _ (by omega)]
   show (af_ 2 (c1_ 1 _ w.Ends)).Life<1000
   rw [bz_ hE (by omega) (by omega),if_neg (by omega)]
   exact hl 2 (by omega)
  ·have:n=1:=by omega
   subst this
   rw [r4_ _ (by omega)]
   show (af_ 1 (c1_ 1 _ w.Ends)).Up=true
   rw [bz_ hE (by omega) (by omega),if_pos rfl]
   exact AI_ (a6_ hE (by omega)).1 (hl 1 (by omega))
theorem CC_ {f s:Nat} {w:ac_} (h:Reach f s w) (hf:f≤900):∀n,1≤n∧n≤2→(af_ n w.Ends).Life<1000:=fun n hn=>by
  have:=yh_ h n hn
  unfold mn_ at this
  dsimp only at this
  split at this<;>omega
end Km.X
namespace Km.X
open Go Km
set_option linter.unusedVariables false
set_option linter.unusedSimpArgs false
def falls (L:List as_):Nat:=(L.filter (fun v=>decide (v.Kind=8))).length
theorem lC_ (L M:List as_):falls (L++M)=falls L+falls M:=by unfold falls;rw [List.filter_append,List.length_append]
def EvL (b f:Nat) (L:List as_):Prop:=L.length≤b∧falls L≤f
theorem F8_ (x0 x1:Int) (Q:List as_→Prop) (r:ax_) (n:Int) (hr:Rd n r) (hn:n≤900000) (L:List as_) (hL:L.length≤5000)
    (go:∀L' r',L'.length≤L.length+2→falls L'≤falls L→Rd (n+1) r'→Wp (fun k=>bE_ k x0 x1 r'.b r'.p L') Q):Wp (fun k=>cw_ k x0 x1 r.b r.p L) Q:=by
  refine Wp.step ?_
  simp only [cw_]
  refine Wp.pick hr (by omega) (by omega) (fun q r1 q0 q1 h1=> ?_)
  simp only [fl_]
  refine Wp.ite (fun _=> ?_) (fun _=>go L r1 (by omega) (Nat.le_refl _) h1)
  refine Wp.opt (aQ_ (by simp;omega)) ?_
  exact go _ r1 (by simp) (by rw [lC_];exact Nat.le_refl _) h1
theorem F2_ (x0 x1 x2:Int) (Q:List as_→Prop) (b:List Int) (p:Int):∀(d:Nat) (L:List as_),L.length+d≤5000→
    (∀L',L'.length≤L.length+d→falls L'≤falls L→Wp (fun k=>bs_ k x0 x1 (IntKind.wrap .i64 (x2-1)) b p L') Q)→Wp (fun k=>bI_ k x0 x1 x2 (d:Int) b p L) Q
  | 0,L,hL,go=>by
    refine Wp.step ?_
    simp only [bI_]
    exact Wp.dec (fun g=>by omega) (fun _=>go L (by omega) (Nat.le_refl _))
  | d+1,L,hL,go=>by
    refine Wp.step ?_
    simp only [bI_]
    refine Wp.dec (fun _=> ?_) (fun g=>by omega)
    refine Wp.opt (aQ_ (by simp;omega)) ?_
    rw [aS_ (n:=((d+1:Nat):Int)-1) (by omega) (by omega),show ((d+1:Nat):Int)-1=(d:Int) by omega]
    refine F2_ x0 x1 x2 Q b p d _ (by simp;omega) (fun L' h1 h2=>go L' (by simp at h1;omega) ?_)
    rw [lC_] at h2
    exact h2
theorem F6_ (x0 x1:Int) (Q:List as_→Prop) (L0:List as_) (n0:Int) (hn0:n0≤800000)
    (go:∀L' r',L'.length≤L0.length+27→falls L'≤falls L0→Rd (n0+6) r'→Wp (fun k=>bE_ k x0 x1 r'.b r'.p L') Q) (hL0:L0.length≤4000):∀(d:Nat) (L:List as_) (r:ax_) (n:Int),d≤5→L.length+5*d≤L0.length+25→falls L≤falls L0→Rd n r→n+d≤n0+5→
    Wp (fun k=>bs_ k x0 x1 (d:Int) r.b r.p L) Q
  | 0,L,r,n,hd,hL,hf,hr,hn=>by
    refine Wp.step ?_
    simp only [bs_]
    refine Wp.dec (fun g=>by omega) (fun _=> ?_)
    exact F8_ x0 x1 Q r n hr (by omega) L (by omega) (fun L' r' h1 h2 h3=>go L' r' (by omega) (by omega) (h3.mono (by omega)))
  | d+1,L,r,n,hd,hL,hf,hr,hn=>by
    refine Wp.step ?_
    simp only [bs_]
    refine Wp.dec (fun _=> ?_) (fun g=>by omega)
    refine Wp.opt (aQ_ (by simp;omega)) ?_
    refine Wp.pick hr (by omega) (by omega) (fun q r1 q0 q1 h1=> ?_)
    dsimp only
    have:=F2_ x0 x1 ((d+1:Nat):Int) Q r1.b r1.p q.toNat (L++[⟨1,0,0,0,(⟨#[]⟩:ByteArray)⟩]) (by simp;omega) (fun L' h2 h3=>by
      rw [aS_ (n:=((d+1:Nat):Int)-1) (by omega) (by omega),show ((d+1:Nat):Int)-1=(d:Int) by omega]
      simp at h2
      rw [lC_] at h3
      have h3:falls L'≤falls L:=h3
      exact F6_ x0 x1 Q L0 n0 hn0 go hL0 d L' r1 (n+1) (by omega) (by omega) (by omega) h1 (by omega))
    rw [Int.toNat_of_nonneg q0] at this
    exact this
theorem dv5 (x0:Int) (hx0:x0≤59):∀(d:Nat) (x1:Int) (L:List as_) (r:ax_) (n:Int),d=(x0-x1).toNat→0≤x1→Rd n r→0≤n→n+100*d≤500000→L.length+28*d≤3000→
    Wp (fun k=>b4_ k x0 x1 r.b r.p L) (EvL (L.length+28*d) (falls L+d))
  | 0,x1,L,r,n,hd,h0,hr,hn,hn',hL=>by
    refine Wp.step ?_
    simp only [b4_]
    exact Wp.dec (fun g=>by omega) (fun _=>Wp.ret ⟨by omega,by omega⟩)
  | d+1,x1,L,r,n,hd,h0,hr,hn,hn',hL=>by
    refine Wp.step ?_
    simp only [b4_]
    refine Wp.dec (fun _=> ?_) (fun g=>by omega)
    refine Wp.bind (x2_ r n hr (by omega)) ?_
    rintro ⟨v,r1⟩ ⟨hv,h1⟩
    dsimp only at hv h1⊢
    refine Wp.opt (aQ_ (by simp;omega)) ?_
    have hf1:falls (L++[v])≤falls L+1:=by
      rw [lC_]
      have:falls [v]≤1:=by unfold falls;have:=List.length_filter_le (fun v:as_=>decide (v.Kind=8)) [v];simpa using this
      omega
    have nx:∀L' r',L'.length≤L.length+28→falls L'≤falls L+1→Rd (n+100) r'→Wp (fun k=>bE_ k x0 x1 r'.b r'.p L') (EvL (L.length+28*(d+1)) (falls L+(d+1))):=fun L' r' h2 h3 h4=>by
      refine Wp.step ?_
      simp only [bE_]
      rw [aS_ (n:=x1+1) (by omega) (by omega)]
      refine (dv5 x0 hx0 d (x1+1) L' r' (n+100) (by omega) (by omega) h4 (by omega) (by omega) (by omega)).mono fun v hv=>⟨by have:=hv.1;omega,by have:=hv.2;omega⟩
    refine Wp.pick h1 (by omega) (by omega) (fun q r2 q0 q1 h2=> ?_)
    simp only [fl_]
    have hLl:(L++[v]).length=L.length+1:=by simp
    refine Wp.ite (fun _=> ?_) (fun _=> ?_)
    ·refine Wp.pick h2 (by omega) (by omega) (fun q r3 q0 q1 h3=> ?_)
     dsimp only
     have:=F6_ x0 x1 _ (L++[v]) (n+52) (by omega) (fun L' r' g1 g2 g3=>nx L' r' (by omega) (by omega) (g3.mono (by omega))) (by omega) q.toNat (L++[v]) r3 (n+52) (by omega) (by omega) (Nat.le_refl _) (h3.mono (by omega)) (by omega)
     rw [Int.toNat_of_nonneg q0] at this
     exact this
    ·exact F8_ x0 x1 _ r2 _ h2 (by omega) _ (by omega) (fun L' r' g1 g2 g3=>nx L' r' (by omega) (by omega) (g3.mono (by omega)))
theorem sT_ (a:List Int) (h:∀y∈a,jA_ y):Wp (fun k=>fp_ k a) (EvL 2000 59):=by
  unfold fp_
  refine Wp.bind (zl_ a h) (fun r h0=> ?_)
  refine Wp.pick h0 (by omega) (by omega) (fun q r1 q0 q1 h1=> ?_)
  dsimp only
  rw [aS_ (n:=10+q) (by omega) (by omega)]
  refine (dv5 (10+q) (by omega) (10+q).toNat 0 [] r1 1 (by omega) (by omega) (h1.mono (by omega)) (by omega) (by omega) (by simp;omega)).mono fun v hv=>⟨?_, ?_⟩
  ·have:=hv.1;simp at this;omega
  ·have:=hv.2;change _≤0+_ at this;omega
end Km.X
namespace Km.X
open Go Km
set_option linter.unusedVariables false
set_option linter.unusedSimpArgs false
def m5_ (w:ac_) (v:as_):Bool:=if v.Kind=2∧0≤v.A then (match w.Flight[v.A.toNat]? with | some p=>decide (¬p.Bytes=p.Sent)&&(hd_ p.Bytes w.Key w.Width).2 | none=>false) else false
theorem wI_ (w:ac_) (h:au_ w) (v:as_):Wp (fun k=>gw_ k w v) (· =m5_ w v):=by
  unfold gw_ m5_
  simp only [ma_,al_,mb_]
  refine Wp.ite (fun h1=> ?_) (fun h1=>Wp.ret (by rw [if_neg (fun g=>h1 g.1)]))
  refine Wp.ite (fun h2=>Wp.ret (by rw [if_neg (fun g=>by have:=g.2;omega)])) (fun h2=> ?_)
  rw [if_pos ⟨h1,by omega⟩]
  refine Wp.ite (fun h3=>Wp.ret (by rw [List.getElem?_eq_none (by omega)])) (fun h3=> ?_)
  have hlt:v.A.toNat<w.Flight.length:=by omega
  have e2:w.Flight[v.A.toNat]? =some w.Flight[v.A.toNat]:=List.getElem?_eq_getElem hlt
  have e1:idx w.Flight v.A=some w.Flight[v.A.toNat]:=by
    have:=rq_ hlt
    rwa [Int.toNat_of_nonneg (by omega)] at this
  have hp:=h.2.2.2.2.2.1 _ (List.getElem_mem hlt)
  simp only [e1,e2,Option.bind_some]
  refine Wp.ite (fun h4=>Wp.ret (by simp [h4])) (fun h4=> ?_)
  refine Wp.bind (p0_ _ _ _ (by have:=hp.2.2;omega)) (fun _ q=> ?_);subst q
  exact Wp.ret (by simp [h4])
theorem Br_ {w:ac_} {v:as_} (hf:w.Forged=noB) (h:m5_ w v=false):(doW w v).Forged=noB:=by
  unfold doW
  split
  ·exact hf
  split
  ·split
   ·split
    ·rename_i h1 h2 h3 _ p hp
     unfold hS_
     split
     ·rename_i h4
      unfold m5_ at h
      rw [if_pos ⟨h4,h3⟩,hp] at h
      simp only [Bool.and_eq_false_iff,decide_eq_false_iff_not,Decidable.not_not] at h
      unfold aT_
      split
      ·rename_i hr
       dsimp only
       rw [if_neg]
       ·exact hf
       ·rintro ⟨g1,g2⟩
        rcases h with h | h
        ·exact g1 h
        ·change (hd_ p.Bytes w.Key w.Width).2=true at hr
         rw [h] at hr;cases hr
      ·exact hf
     ·repeat' split
      all_goals exact hf
    ·exact hf
   ·exact hf
  split
  ·unfold kU_
   repeat' split
   all_goals first | exact hf | (rw [oK_];exact hf) | (rw [kO_];exact hf)
  ·exact hf
end Km.X
namespace Km.X
open Go Km
set_option linter.unusedVariables false
set_option linter.unusedSimpArgs false
theorem vT_ (b:ByteArray) (wd:Int):Wp (fun k=>gB_ k b wd) (· =vi_ b wd):=by
  unfold gB_ vi_
  refine Wp.dec (fun h=>Wp.ret (by rw [if_neg (fun g=>by omega)];rfl)) (fun h1=> ?_)
  refine Wp.dec (fun h=>Wp.ret (by rw [if_neg (fun g=>by omega)];rfl)) (fun h2=> ?_)
  refine Wp.dec (fun h=>Wp.ret (by rw [if_neg (fun g=>by omega)];rfl)) (fun h3=> ?_)
  refine Wp.bind (rv_ 1) (fun _ e=> ?_);subst e
  refine Wp.bind (rv_ 2) (fun _ e=> ?_);subst e
  exact Wp.ret (by rw [if_pos ⟨by omega,by omega⟩])
end Km.X
namespace Km.X
open Go Km
set_option linter.unusedVariables false
set_option linter.unusedSimpArgs false
theorem zT_ {w:ac_} {v:as_} (hf:w.Forged=noB) (h:m5_ w v=true):¬(doW w v).Forged=noB:=by
  unfold m5_ at h
  split at h
  ·rename_i hk
   split at h
   ·rename_i p hp
    simp only [Bool.and_eq_true,decide_eq_true_eq] at h
    have e:doW w v=aT_ (cd_ w (w.Flight.eraseIdx v.A.toNat)) p:=by
      rw [r5_ (by omega) hk.2 hp]
      unfold hS_
      rw [if_pos hk.1]
    intro g
    rw [e] at g
    have:=(hK_ g).2 h.2
    exact h.1 this
   ·cases h
  ·cases h
theorem Ew_ (a:List Int) (hal:a.length≤1048576) (L:List as_) (hL:L.length≤5000):∀(t pre:List as_) (w:ac_) (fg:Bool) (f s:Nat),pre++t=L→Reach f s w→f+falls t≤59→(fg=decide (¬w.Forged=noB))→
    Wp (fun k=>bO_ k a fg (pre.length:Int) w.Key w.Width w.Forged w.Key w.Width w.Forged L w.Ends w.Flight w.Given w.Taken w.Ends w.Flight w.Given w.Taken) (· =true)
  | [],pre,w,fg,f,s,he,hr,hfl,hfg=>by
    have he':pre=L:=by simpa using he
    have hV:=hr.V
    refine Wp.step ?_
    simp only [bO_]
    refine Wp.dec (fun g=>by rw [he'] at g;omega) (fun _=> ?_)
    refine Wp.bind (li_ w (e4_ hV) _) (fun x hx=> ?_)
    have hx:x=doW w ⟨9,1,0,0,noB⟩:=by rw [hx];unfold doM;rw [if_pos hV]
    subst hx
    have v1:=yK_ hV ⟨9,1,0,0,noB⟩
    refine Wp.bind (li_ _ (e4_ v1) _) (fun x hx=> ?_)
    have hx:x=doW (doW w ⟨9,1,0,0,noB⟩) ⟨9,2,0,0,noB⟩:=by rw [hx];unfold doM;rw [if_pos v1]
    subst hx
    have v2:=yK_ v1 ⟨9,2,0,0,noB⟩
    refine Wp.bif (fun _=>Wp.ret rfl) (fun hg=> ?_)
    refine Wp.opt (gj_ (by omega) (by omega)) ?_
    rw [aS_ (by omega) (by omega)]
    have hf:w.Forged=noB:=by
      rw [hfg] at hg
      simpa using hg
    refine Wp.bind (Bq_ (by omega) v2 (fun hf2=> ?_) (CZ_ hV (CC_ hr (by omega)))) (fun _ q=> ?_)
    ·have h1:=mw_ hf2
     exact sG_ v1 (sG_ hV (tz_ hr hf) _ h1) _ hf2
    ·subst q;exact Wp.ret rfl
  | v::t,pre,w,fg,f,s,he,hr,hfl,hfg=>by
    have hlen:pre.length+(t.length+1)=L.length:=by rw [←he];simp
    have hV:=hr.V
    have hx1:=yK_ hV v
    have i1:idx L (pre.length:Int)=some v:=by rw [←he];exact aI_
    have i2:L[Int.toNat (pre.length:Int)]? =some v:=by rw [←he];exact fo_
    have hr':Reach (f+if v.Kind=8 then 1 else 0) (s+1) (doW w v):= .step v hr
    have hfl':(f+if v.Kind=8 then 1 else 0)+falls t≤59:=by
      have:falls (v::t)=(if v.Kind=8 then 1 else 0)+falls t:=by
        unfold falls
        by_cases h8:v.Kind=8
        ·rw [List.filter_cons_of_pos (by simpa using h8),if_pos h8];simp;omega
        ·rw [List.filter_cons_of_neg (by simpa using h8),if_neg h8];omega
      omega
    have nx:∀fg',fg'=decide (¬(doW w v).Forged=noB)→Wp (fun k=>bO_ k a fg' (IntKind.wrap .i64 ((pre.length:Int)+1)) (doW w v).Key (doW w v).Width (doW w v).Forged (doW w v).Key (doW w v).Width (doW w v).Forged L (doW w v).Ends (doW w v).Flight (doW w v).Given (doW w v).Taken (doW w v).Ends (doW w v).Flight (doW w v).Given (doW w v).Taken) (· =true):=fun fg' hfg'=>by
      rw [aS_ (by omega) (by omega)]
      have:=Ew_ a hal L hL t (pre++[v]) (doW w v) fg' _ _ (by rw [←he];simp) hr' hfl' hfg'
      rw [show ((pre++[v]).length:Int)=(pre.length:Int)+1 by simp] at this
      exact this
    have hdm:doM w v=doW w v:=by unfold doM;rw [if_pos hV]
    have hFs:((doW w v).Forged.toList==(⟨#[]⟩:ByteArray).toList)=decide ((doW w v).Forged=noB):=Co_
    refine Wp.step ?_
    simp only [bO_]
    refine Wp.dec (fun _=> ?_) (fun g=>by omega)
    simp only [i1,i2,Option.bind_some]
    refine Wp.bif (fun hg=> ?_) (fun hg=> ?_)
    ·have hne:¬w.Forged=noB:=by rw [hfg] at hg;simpa using hg
     have hne':¬(doW w v).Forged=noB:=fun g=>hne (mw_ g)
     refine Wp.bind (li_ w (e4_ hV) v) (fun x hx=> ?_)
     rw [hdm] at hx;subst hx
     refine Wp.bind (u0_ w (e4_ hV) v) (fun x hx=> ?_)
     rw [hdm] at hx;subst hx
     refine Wp.bind (uB_ _ (.inl hx1)) (fun _ e=> ?_);subst e
     simp only [Bool.not_true,cond_false]
     refine Wp.bind (cr_ _ (e4_ hx1)) (fun _ e=> ?_);subst e
     rw [decide_eq_true hx1,hFs,decide_eq_false hne']
     simp only [Bool.not_true,Bool.not_false,beq_self_eq_true,cond_false]
     exact nx true (by simp [hne'])
    ·have hf:w.Forged=noB:=by rw [hfg] at hg;simpa using hg
     refine Wp.bind (wI_ w hV v) (fun _ e=> ?_);subst e
     refine Wp.bind (li_ w (e4_ hV) v) (fun x hx=> ?_)
     rw [hdm] at hx;subst hx
     refine Wp.bind (u0_ w (e4_ hV) v) (fun x hx=> ?_)
     rw [hdm] at hx;subst hx
     refine Wp.bind (uB_ _ (.inl hx1)) (fun _ e=> ?_);subst e
     simp only [Bool.not_true,cond_false]
     refine Wp.bind (cr_ _ (e4_ hx1)) (fun _ e=> ?_);subst e
     have hfo:m5_ w v=decide (¬(doW w v).Forged=noB):=by
       cases hc:m5_ w v with
       | true=>exact (decide_eq_true (zT_ hf hc)).symm
       | false=>exact (decide_eq_false (fun g=>g (Br_ hf hc))).symm
     rw [decide_eq_true hx1,hFs,hfo]
     simp only [Bool.not_true,cond_false]
     by_cases hfx:(doW w v).Forged=noB
     ·have hI:=sG_ hV (tz_ hr hf) v hfx
      have hr1:=uC_ hx1 hI
      rw [decide_eq_true hfx,decide_eq_false (not_not_intro hfx)]
      simp only [Bool.not_true,Bool.not_false,beq_self_eq_true,cond_false,cond_true]
      refine Wp.bind (mW_ _ (e4_ hx1)) (fun _ e=> ?_);subst e
      rw [hr1]
      simp only [Bool.not_true,cond_false]
      exact nx false (by simp [hfx])
     ·rw [decide_eq_false hfx,decide_eq_true hfx]
      simp only [Bool.not_true,Bool.not_false,beq_self_eq_true,cond_false,cond_true]
      exact nx true (by simp [hfx])
theorem exact_FnTop (a b:List Int) (h0:a.length≤maxLen∧∀y∈a,jA_ y) (h1:b.length≤maxLen∧∀y∈b,jA_ y):∃k,mK_ k a b=some true:=by
  refine Wp.exists ?_
  unfold mK_
  refine Wp.dec (fun _=>Wp.ret rfl) (fun hal=> ?_)
  refine Wp.dec (fun _=>Wp.ret rfl) (fun _=> ?_)
  have hd:Wp (fun k=>es_ k a) (fun v=>True):=by
    unfold es_
    refine Wp.bind (yX_ a h0.2) (fun v hv=> ?_)
    exact Wp.ret trivial
  refine Wp.bind hd (fun kw _=> ?_)
  refine Wp.bind (vT_ kw.1 kw.2) (fun _ e=> ?_);subst e
  refine Wp.bind (wx_ kw.1 kw.2) (fun _ e=> ?_);subst e
  by_cases hc:(1≤kw.2∧kw.2≤8)∧kw.1.size≤30
  ·have hr:Reach 0 0 (vi_ kw.1 kw.2):= .new hc.2 hc.1
   have hne:(((vi_ kw.1 kw.2).Ends.length:Int)==0)=false:=by unfold vi_;rw [if_pos hc];rfl
   rw [hne]
   simp only [cond_false]
   refine Wp.bind (sT_ b h1.2) (fun L hL=> ?_)
   exact Ew_ a (by omega) L (by have:=hL.1;omega) L [] (vi_ kw.1 kw.2) false 0 0 rfl hr (by have:=hL.2;omega) (by unfold vi_;rw [if_pos hc];rfl)
  ·have hn:vi_ kw.1 kw.2=hP_:=by unfold vi_;rw [if_neg hc]
   rw [hn]
   exact Wp.ret rfl
end Km.X
