/- A part of the proof of FnExactDo: an abstract machine over the program, sound by its theorems. There is no condition. -/
import Derived.Test.YtgffmpjadffjkaaGreatKmAm2
namespace Km
open Go
set_option linter.unusedVariables false
set_option linter.unusedSimpArgs false
variable {κ:Type} {Ty:κ→Type} {R:Type}
section
variable {P:Program} {C:Cod κ Ty} {T:TypeId→Option (TI κ Ty)} {Γ:FuncId→Option (aK_ κ Ty)}
variable {Mut:Nat→Prop} {Lent:Org κ Ty} {w0 w w':World} {ρ ρ' ρ2:Nat→Loc} {env:Env κ Ty} {objs objs' objs2:am_ κ Ty} {a:Act}
variable {next:Act→World→Prop} {Q:Exit→Act→World→Prop} {o:Oper}
structure Known (P:Program) (C:Cod κ Ty) (T:TypeId→Option (TI κ Ty)) (Γ:FuncId→Option (aK_ κ Ty)):Prop where
  ty:TOk P C T
  el:EOk P C T
  cod:aO_ C
  fn:∀f S,Γ f=some S→SummOk P C f S
theorem tR_ (HT:TOk P C T) (S:SRel C Mut Lent w0 ρ env objs a.tmps w):∀(xs:List Operand) (ts:List TypeId),xs.length=ts.length→(xs.map a.eval).length=(dT_ T env xs ts).length∧
    ∀(j:Nat) (x:AV κ Ty) (u:Value),(dT_ T env xs ts)[j]? =some x→(xs.map a.eval)[j]? =some u→VRel C w Mut ρ objs x u
  | [],[],_=>⟨rfl,fun j x u h=>by simp [dT_] at h⟩
  | [],_::_,h=>by simp at h
  | _::_,[],h=>by simp at h
  | x::xs,t::ts,h=>by
    obtain ⟨h1,h2⟩:=tR_ HT S xs ts (by simpa using h)
    refine ⟨by simp [dT_] at h1⊢;exact h1,fun j y u hj hu=> ?_⟩
    cases j with
    | zero=>simp [dT_] at hj hu;subst hj;subst hu;exact aB_ HT S t x
    | succ j=>exact h2 j y u (by simpa [dT_] using hj) (by simpa using hu)
theorem z8_ (HC:aO_ C) (S:SRel C Mut Lent w0 ρ env objs a.tmps w) {x:AV κ Ty} {u:Value} {t:κ} {xs:List (Ty t)} (hx:VRel C w Mut ρ objs x u) (h:rowsX objs x=some ⟨t,xs⟩):∃A c,u= .slice A xs.length c:=by
  unfold rowsX at h
  split at h
  ·split at h
   ·rename_i e
    cases h
    cases hx with
    | rwv h1 hA=>rw [bb_ e] at h1;cases h1;exact ⟨_,_,rfl⟩
    | rwvd hcl hin h1=>rw [dL_ (bb_ e)] at h1;cases h1
   ·cases h
  ·split at h
   ·rename_i e
    split at h
    ·rename_i hg
     cases h
     have hg:=Nat.eq_of_beq_eq_true hg
     cases hx with
     | xr hcl e' hgg hv=>
       rw [e] at e';cases e'
       obtain ⟨b,x,A,k1,k2,rfl,k4⟩:=hv hg rfl
       exact ⟨_,_,rfl⟩
     | xrd hcl hin h1=>rw [dL_ (bb_ e)] at h1;cases h1
    ·cases h
   ·cases h
  ·obtain ⟨A,c,blk,off,e,_⟩:=hu_ HC S hx h
   exact ⟨A,c,e⟩
theorem vS_ (HT:TOk P C T) (HC:aO_ C) (S:SRel C Mut Lent w0 ρ env objs a.tmps w) {t ty:TypeId} {ti:TI κ Ty} (ht:T t=some ti) {x:AV κ Ty} {u:Value} {n:Int} (hx:VRel C w Mut ρ objs x u) (h:lenOf objs ti.shp x=some n):
    (Builtin.len_ #[t] ty #[u]).run P w= .ok (.int .i64 n) w:=by
  unfold lenOf at h
  split at h
  ·rename_i hs
   have hu:=HT.str t ti ht hs
   split at h
   ·obtain ⟨rfl,_⟩:=aU_ hx
    cases h
    simp only [Builtin.len_,List.getElem?_toArray,List.getElem?_cons_zero,Sem.run_bind,run_underlying hu,Result.andThen_ok]
    rfl
   ·cases h
  ·rename_i e s hs
   obtain ⟨hu,_⟩:=HT.slice t ti e s ht hs
   split at h
   ·rename_i id
    split at h
    ·rename_i t' xs hr
     cases hx with
     | rwv h1 hA=>
       rw [hr] at h1;cases h1
       cases h
       simp only [Builtin.len_,List.getElem?_toArray,List.getElem?_cons_zero,Sem.run_bind,run_underlying hu,Result.andThen_ok]
       rfl
     | rwvd hcl hin h1=>rw [dL_ hr] at h1;cases h1
    ·cases h
   ·split at h
    ·rename_i t' xs hr
     obtain ⟨A,c,rfl⟩:=z8_ HC S hx hr
     cases h
     simp only [Builtin.len_,List.getElem?_toArray,List.getElem?_cons_zero,Sem.run_bind,run_underlying hu,Result.andThen_ok]
     rfl
    ·cases h
  ·cases h
theorem z7_ (HT:TOk P C T) (S:SRel C Mut Lent w0 ρ env objs a.tmps w) {x:Option Operand} {b:Option Int}
    (h:(match x with | none=>some none | some l=>(match dN_ T env 0 l with | .lit (.int _ n)=>some (some n) | _=>none):Option (Option Int))=some b):Ck_ b (x.map a.eval):=by
  cases x with
  | none=>cases h;exact .none
  | some y=>
    simp only at h
    split at h
    ·rename_i k n he
     cases h
     have:=aB_ HT S 0 y
     rw [he] at this
     obtain ⟨hu,_⟩:=aU_ this
     simp only [Option.map_some,hu]
     exact .some k n
    ·cases h
theorem bc_ {u:Value} {x:Sem Value} (hx:execOp a.eval o=(do pure (.value (←x)))) (h:x.run P w= .ok u w'):(execOp a.eval o).run P w= .ok (.value u) w':=by
  rw [hx];simp [h]
theorem vh_ {x:Sem Unit} (hx:execOp a.eval o=(do x;pure .skip)) (h:x.run P w= .ok () w'):(execOp a.eval o).run P w= .ok .skip w':=by
  rw [hx];simp [h]
theorem t8_ (H:Known P C T Γ) (S:SRel C Mut Lent w0 ρ env objs a.tmps w) {K:AV κ Ty→am_ κ Ty→Option R} {r:R} (h:aop C T Γ o env objs K=some r)
    (hn:∀v objs' ρ' u w',K v objs'=some r→SRel C Mut Lent w0 ρ' env objs' a.tmps w'→VRel C w' Mut ρ' objs' v u→next (a.put o.dst u) w'):o.wp P a w next Q:=by
  unfold aop at h
  split at h
  ·rename_i x ho
   exact aT_ (by simp only [execOp,ho];rfl) (hn _ _ ρ _ w h S (aB_ H.ty S _ x))
  ·rename_i x ho
   exact aT_ (by simp only [execOp,ho];rfl) (hn _ _ ρ _ w h S (aB_ H.ty S _ x))
  ·rename_i c x y ho
   split at h
   ·rename_i t hc
    have h:=lK_ h
    have hcu:=aB_ H.ty S 0 c
    rw [hc] at hcu
    obtain ⟨hcu,_⟩:=aU_ hcu
    refine aT_ (u:=if t=true then a.eval x else a.eval y) (w':=w) ?_ (hn _ _ ρ _ w h S ?_)
    ·simp only [execOp,ho,hcu,asBool];rfl
    ·cases t
     ·exact aB_ H.ty S _ y
     ·exact aB_ H.ty S _ x
   ·cases h
  ·rename_i t ho
   split at h
   ·rename_i ti ht
    split at h
    ·rename_i n e s hs
     split at h
     ·rename_i te hte hle
      split at h
      ·rename_i z hz
       obtain ⟨u',w',ρ',g1,g2,g3⟩:=rT_ (P:=P) H.ty H.cod S ht hs hte (Nat.le_of_ble_eq_true hle) hz
       exact aT_ (bc_ (by simp only [execOp,ho]) g1) (hn _ _ ρ' _ w' h g2 g3)
      ·cases h
     ·cases h
    ·obtain ⟨u',w',ρ',g1,g2,g3⟩:=rQ_ (P:=P) H.ty S ht
     exact aT_ (bc_ (by simp only [execOp,ho]) g1) (hn _ _ ρ' _ w' h g2 g3)
   ·cases h
  ·rename_i t x ho
   split at h
   ·rename_i cs hc
    have hx:=aB_ H.ty S t x
    have hcs:=fl_ hc hx
    refine aT_ (u:= .pointer (some (at' w.heap.size 0))) (w':=w.alloc (.cells (a.eval x).cells t)) ?_ (hn _ _ _ _ _ h (S.newBox t hcs) ?_)
    ·simp only [execOp,ho]
     simp [Instr.box,newVar,newRow,World.alloc_eq,at']
    ·have:=VRel.ref (C:=C) (w:=w.alloc (.cells (a.eval x).cells t)) (Mut:=Mut) (ρ:=upd ρ objs.length ⟨w.heap.size,0,0,noSub⟩) (off:=0) (a0_ objs (.box cs))
     rw [ay_] at this
     exact this
   ·cases h
  ·rename_i t ps ho
   split at h
   ·rename_i ti ht
    split at h
    ·rename_i fs hs
     split at h
     ·rename_i cs hf
      obtain ⟨us,g1,g2⟩:=v2_ (P:=P) H.ty ht hs (ih_ H.ty S _ ps.toList) hf
      refine aT_ (bc_ (x:=Instr.build t (ps.map fun (i,x)=>(i,a.eval x))) (by simp only [execOp,ho]) ?_) (hn _ _ ρ _ w h S g2.agg)
      rw [←g1];congr 2
      apply Array.ext';simp
     ·cases h
    ·cases h
   ·cases h
  ·rename_i t n ps ho
   split at h
   ·rename_i ti ht
    split at h
    ·rename_i e s hs
     split at h
     ·rename_i hb
      simp only [Bool.and_eq_true] at hb
      split at h
      ·rename_i hnil
       obtain ⟨hu,ie,i1,i2,i3⟩:=H.ty.slice t ti e s ht hs
       have hn0:n=0:=by have:=Nat.eq_of_beq_eq_true hb.1;rw [hnil] at this;simpa using this.symm
       subst hn0
       have hps:ps= #[]:=by apply Array.ext';exact hnil
       subst hps
       refine aT_ (bc_ (x:=Instr.buildSlice t 0 ((#[]:Array (Nat×Operand)).map fun (i,x)=>(i,a.eval x))) (by simp only [execOp,ho]) (u:= .slice (some (at' w.heap.size 0)) 0 0) (w':=w.alloc (.cells #[] e)) ?_) ?_
       ·simp only [Instr.buildSlice,Sem.run_bind,run_underlying hu,Result.andThen_ok,hj_ i1,i2]
        have e0:Array.range 0= #[]:=rfl
        simp [Instr.fill,newRow,World.alloc_eq,at',e0]
       ·have W:WStep w (w.alloc (.cells #[] e)) (aN_ ρ objs) (aN_ ρ objs):=⟨fun b hb _=>bh_ w _ hb,by simp,fun b h=> .inl h⟩
        exact hn _ _ ρ _ _ h (S.step W (Nat.le_refl _) (fun id=> .refl id) (fun id=>ORel.step W (Nat.le_refl _) (fun id=> .refl id) (S.ob id) rfl rfl (fun b hb=>bh_ w _ (S.flt hb))) (fun i j b hi hj=>S.inj i j b hi hj) rfl rfl rfl) .nil
      have hpl:∀(ps:List (Nat×Operand)) (ty:Nat→TypeId),(d6_ T env ty ps).length=ps.length:=fun ps ty=>by
        induction ps with
        | nil=>rfl
        | cons p ps ih=>obtain ⟨i,x⟩:=p;simp [d6_,ih]
      split at h
      ·split at h
       ·rename_i ys hys
        obtain ⟨u',w',g2,g3,g4⟩:=mV_ (P:=P) H.ty H.el H.cod S ht hs (n:=n) (ih_ H.ty S (fun _=>e) ps.toList) (by rw [hpl];exact Nat.eq_of_beq_eq_true hb.1) (Nat.le_of_ble_eq_true hb.2) hys
        refine aT_ (bc_ (x:=Instr.buildSlice t n (ps.map fun (i,x)=>(i,a.eval x))) (by simp only [execOp,ho]) ?_) (hn _ _ ρ _ w' h g3 g4)
        rw [←g2];congr 2
        apply Array.ext';simp
       ·cases h
      obtain ⟨ys,objs1,u',w',ρ',g1,g2,g3,g4⟩:=op_ (P:=P) H.ty H.el H.cod S ht hs (n:=n) (ih_ H.ty S (fun _=>e) ps.toList) (by rw [hpl];exact Nat.eq_of_beq_eq_true hb.1) (Nat.le_of_ble_eq_true hb.2) h
      refine aT_ (bc_ (x:=Instr.buildSlice t n (ps.map fun (i,x)=>(i,a.eval x))) (by simp only [execOp,ho]) ?_) (hn _ _ ρ' _ w' g1 g3 g4)
      rw [←g2];congr 2
      apply Array.ext';simp
     ·cases h
    ·cases h
   ·cases h
  ·rename_i t x ho
   split at h
   ·rename_i ti ht
    obtain ⟨v,u',g1,g2,g3⟩:=qp_ (P:=P) H.ty H.cod S ht (aB_ H.ty S 0 x) h
    exact aT_ (bc_ (by simp only [execOp,ho]) g2) (hn _ _ ρ _ w g1 S g3)
   ·cases h
  ·rename_i t x y ho
   split at h
   ·rename_i ti ht
    obtain ⟨objs',ρ',w',g1,g2,g3⟩:=uP_ (P:=P) H.ty H.cod S ht (aB_ H.ty S 0 x) (aB_ H.ty S t y) h
    exact xx_ (vh_ (by simp only [execOp,ho]) g2) (hn _ _ ρ' _ w' g1 g3 .undef)
   ·cases h
  ·rename_i x ho
   split at h
   ·rename_i ha
    have hx:=aB_ H.ty S o.type x
    obtain ⟨b,k,hu⟩:=nK_ ha hx
    exact aT_ (by simp only [execOp,ho,hu];rfl) (hn _ _ ρ _ w h S (hu▸hx))
   ·cases h
  ·rename_i op t x y ty ho
   split at h
   ·rename_i ti ht
    split at h
    ·rename_i hag
     split at h
     ·rename_i b hb
      obtain ⟨q1,q2⟩:=xU_ (P:=P) H.ty ht hag x y (aB_ H.ty S t x) (aB_ H.ty S t y) hb
      split at h
      ·exact aT_ (bc_ (x:=do eqGuard .eql t x y (a.eval x) (a.eval y);binOp .eql t (a.eval x) (a.eval y)) (by simp only [execOp,ho]) q1) (hn _ _ ρ _ w h S (.lit rfl))
      ·exact aT_ (bc_ (x:=do eqGuard .neq t x y (a.eval x) (a.eval y);binOp .neq t (a.eval x) (a.eval y)) (by simp only [execOp,ho]) q2) (hn _ _ ρ _ w h S (.lit rfl))
      ·cases h
     ·cases h
    ·obtain ⟨v,u,g1,g2,g3⟩:=xL_ (P:=P) H.ty ht x y (aB_ H.ty S t x) (aB_ H.ty S t y) h
     exact aT_ (bc_ (x:=do eqGuard op t x y (a.eval x) (a.eval y);binOp op t (a.eval x) (a.eval y)) (by simp only [execOp,ho]) g2) (hn _ _ ρ _ w g1 S g3)
   ·cases h
  ·rename_i op t x ho
   split at h
   ·split at h
    ·rename_i b hb
     have hx:=aB_ H.ty S o.type x
     rw [hb] at hx
     obtain ⟨hu,_⟩:=aU_ hx
     exact aT_ (bc_ (x:=Op.unary .not (a.eval x)) (by simp only [execOp,ho]) (by rw [hu];rfl)) (hn _ _ ρ _ w h S (.lit rfl))
    ·cases h
   ·cases h
  ·rename_i s d x ho
   split at h
   ·rename_i ti td hti htd
    split at h
    ·rename_i k k' n hk hx0
     split at h
     ·rename_i k2 hk2
      have hx:=aB_ H.ty S o.type x
      rw [hx0] at hx
      obtain ⟨hu,_⟩:=aU_ hx
      have u1:=H.ty.int s ti _ hti hk2
      have u2:=H.ty.int d td _ htd hk
      refine aT_ (bc_ (x:=convert s d (a.eval x)) (by simp only [execOp,ho]) (u:= .int k (k.wrap n)) ?_) (hn _ _ ρ _ w h S (.lit rfl))
      rw [hu]
      simp [convert,run_underlying u1,run_underlying u2,Conv.intToInt]
     ·cases h
    ·rename_i hk
     split at h
     ·rename_i e s' hs
      split at h
      ·rename_i te t xs hte hrows
       split at h
       ·rename_i k hk2
        split at h
        ·split at h
         ·rename_i bs hbs
          have hx:=aB_ H.ty S o.type x
          obtain ⟨A,n,c,hu,hrun⟩:=yd_ (P:=P) H.cod S hx hrows hbs
          have u1:=(H.ty.slice s ti e s' hti hs).1
          have u2:=H.ty.int e te _ hte hk2
          have u3:=H.ty.str d td htd hk
          refine aT_ (bc_ (x:=convert s d (a.eval x)) (by simp only [execOp,ho]) (u:= .string (iJ_ bs)) ?_) (hn _ _ ρ _ w h S (.lit rfl))
          rw [hu] at hrun⊢
          rw [run_convert_bytes_string w s d e A n c u1 u2 u3]
          exact hrun
         ·cases h
        ·cases h
       ·cases h
      ·cases h
     ·cases h
    ·rename_i e s' b hs hx0
     split at h
     ·rename_i te hts hte
      split at h
      ·rename_i k hk2
       split at h
       ·split at h
        ·rename_i ys hys
         have hx:=aB_ H.ty S o.type x
         rw [hx0] at hx
         obtain ⟨hu,_⟩:=aU_ hx
         obtain ⟨u',w',ρ',g1,g2,g3⟩:=rv_ (P:=P) H.ty H.cod S hti hts htd hs hte hk2 hys
         exact aT_ (bc_ (x:=convert s d (a.eval x)) (by simp only [execOp,ho]) (by rw [hu];exact g1)) (hn _ _ ρ' _ w' h g2 g3)
        ·cases h
       ·cases h
      ·cases h
     ·cases h
    ·cases h
   ·cases h
  ·rename_i t n c ho
   split at h
   ·rename_i ti ht
    split at h
    ·rename_i e s hs
     split at h
     ·rename_i te hte
      split at h
      ·rename_i k p k' q hp hq
       replace h:=bind_some h
       obtain ⟨m,hm,h⟩:=h
       split at hm
       ·rename_i he
        subst he
        split at h
        ·rename_i z hz
         split at h
         case h_2=>cases h
         rename_i hall
         have h1:=aB_ H.ty S 0 n
         have h2:=aB_ H.ty S 0 c
         rw [hp] at h1
         rw [hq] at h2
         obtain ⟨e1,_⟩:=aU_ h1
         obtain ⟨e2,_⟩:=aU_ h2
         obtain ⟨ms1,ms2⟩:=qs_ (P:=P) (k:=k) (k':=k') H.ty H.el H.cod S ht hs hte hm hz hall
         split at h
         ·rename_i hxc
          simp only [Bool.and_eq_true] at hxc
          obtain ⟨u',w',ρ',g1,g2,g3⟩:=ms2 hxc.1 hxc.2
          exact aT_ (bc_ (x:=Instr.makeSlice t (a.eval n) (a.eval c)) (by simp only [execOp,ho]) (by rw [e1,e2];exact g1)) (hn _ _ ρ' _ w' h g2 g3)
         ·obtain ⟨u',w',ρ',g1,g2,g3⟩:=ms1
          exact aT_ (bc_ (x:=Instr.makeSlice t (a.eval n) (a.eval c)) (by simp only [execOp,ho]) (by rw [e1,e2];exact g1)) (hn _ _ ρ' _ w' h g2 g3)
        ·cases h
       ·cases hm
      ·cases h
     ·cases h
    ·cases h
   ·cases h
  ·rename_i t r' ho
   split at h
   ·split at h
    ·rename_i ti ht
     split at h
     ·rename_i kt et k v hs
      obtain ⟨u',w',ρ',g1,g2,g3⟩:=tn_ (P:=P) S t k v
      exact aT_ (bc_ (x:=Instr.makeMap t none) (by simp only [execOp,ho];rfl) g1) (hn _ _ ρ' _ w' h g2 g3)
     ·cases h
    ·cases h
   ·cases h
  ·rename_i t m x ok ho
   split at h
   ·cases h
   ·split at h
    ·rename_i ti ht
     split at h
     ·rename_i kt et k v hs
      split at h
      ·rename_i te hte
       split at h
       ·rename_i z hz
        rw [hs] at h
        obtain ⟨u',g1,g2,g3⟩:=rV_ (P:=P) H.ty H.cod S ht hs hte hz (aB_ H.ty S 0 m) (aB_ H.ty S kt x) h
        exact aT_ (bc_ (by simp only [execOp,ho]) g2) (hn _ _ ρ _ w g1 S (.lit g3))
       ·rename_i s hz
        rw [hs] at h
        obtain ⟨y,objs',ρ',u',g1,g2,g3,g4⟩:=rk_ (P:=P) H.ty H.cod S ht hs hte hz (aB_ H.ty S 0 m) (aB_ H.ty S kt x) h
        exact aT_ (bc_ (by simp only [execOp,ho]) g2) (hn _ _ ρ' _ w g1 g3 g4)
       ·cases h
      ·cases h
     ·cases h
    ·cases h
  ·rename_i t m x ho
   split at h
   ·rename_i ti ht
    split at h
    ·rename_i kt et k v hs
     split at h
     ·rename_i te hte
      rw [hs] at h
      obtain ⟨y,objs',ρ',u',w',g1,g2,g3,g4⟩:=qr_ (P:=P) H.ty H.cod S ht hs hte (aB_ H.ty S 0 m) (aB_ H.ty S kt x) h
      exact aT_ (bc_ (by simp only [execOp,ho]) g2) (hn _ _ ρ' _ w' g1 g3 g4)
     ·cases h
    ·cases h
   ·cases h
  ·rename_i t m n x ho
   split at h
   ·rename_i ti ht
    obtain ⟨kt,et,k,v,hs⟩:∃kt et k v,ti.shp= .map kt et k v:=by
      unfold dk_ at h
      split at h
      ·rename_i hs _;exact ⟨_,_,_,_,by assumption⟩
      ·cases h
    obtain ⟨objs',ρ',w',g1,g2,g3⟩:=mG_ (P:=P) H.ty H.cod S ht hs (aB_ H.ty S 0 m) (aB_ H.ty S 0 n) (aB_ H.ty S 0 x) h
    exact xx_ (vh_ (by simp only [execOp,ho]) g2) (hn _ _ ρ' _ w' g1 g3 .undef)
   ·cases h
  ·rename_i t x lo hi mx ho
   split at h
   ·rename_i ti ht
    split at h
    ·split at h
     ·rename_i l m hl hm
      have b1:=z7_ H.ty S hl
      have b2:=z7_ H.ty S hm
      obtain ⟨v,u',g1,g2,g3⟩:=uG_ (P:=P) H.ty H.cod S ht (aB_ H.ty S t x) b1 b2 h
      exact aT_ (bc_ (x:=Instr.sliceAt t (a.eval x) (lo.map a.eval) (hi.map a.eval) ((none:Option Operand).map a.eval)) (by simp only [execOp,ho]) g2) (hn _ _ ρ _ w g1 S g3)
     ·cases h
    ·rename_i m hh
     split at h
     ·rename_i k mm k' hv hm hhv
      have b1:=aB_ H.ty S 0 m
      have b2:=aB_ H.ty S 0 hh
      rw [hm] at b1
      rw [hhv] at b2
      obtain ⟨e1,_⟩:=aU_ b1
      obtain ⟨e2,_⟩:=aU_ b2
      obtain ⟨v,u',g1,g2,g3⟩:=sT_ (P:=P) (k:=k') (k':=k) H.ty H.cod S ht (aB_ H.ty S t x) h
      refine aT_ (bc_ (x:=Instr.sliceAt t (a.eval x) ((none:Option Operand).map a.eval) ((some hh).map a.eval) ((some m).map a.eval)) (by simp only [execOp,ho]) ?_) (hn _ _ ρ _ w g1 S g3)
      simp only [Option.map_some,Option.map_none,e1,e2];exact g2
     ·cases h
    ·cases h
   ·cases h
  ·rename_i s x f ho
   split at h
   ·rename_i ti ht
    split at h
    ·rename_i fs hs
     split at h
     ·rename_i v ha hv
      obtain ⟨fields,hu,hfs,hfi⟩:=H.ty.struct s ti fs ht hs
      have hx:=aB_ H.ty S 0 x
      obtain ⟨b,k,hp⟩:=nK_ ha hx
      rw [hp] at hx
      have hd:∃d t,fs[f]? =some (d,t):=by
        unfold wV_ at hv
        split at hv
        ·cases hv
        ·rename_i d t hd;exact ⟨d,t,hd⟩
      obtain ⟨d,t,hd⟩:=hd
      have hr:=yh_ hd ha hv hx
      have hfd:∃fl,fields[f]? =some fl∧fl.offset=d∧fl∈fields.toList:=by
        rw [←hfs] at hd
        simp only [List.getElem?_map,Option.map_eq_some_iff] at hd
        obtain ⟨fl,e1,e2⟩:=hd
        refine ⟨fl,by rw [←Array.getElem?_toList];exact e1,by simpa using congrArg Prod.fst e2,List.mem_of_getElem? e1⟩
      obtain ⟨fl,f1,f2,f3⟩:=hfd
      obtain ⟨i,i1,i2⟩:=hfi fl f3
      refine aT_ (bc_ (x:=Instr.fieldAt s (a.eval x) f) (by simp only [execOp,ho]) (u:= .pointer (some (at' b (k+d)))) ?_) (hn _ _ ρ _ w h S hr)
      rw [hp]
      simp only [Instr.fieldAt,Sem.run_bind,run_underlying hu,Result.andThen_ok,f1,Instr.sureAddr,Sem.run_pure,fieldPlace,hj_ i1]
      rw [if_neg i2]
      simp [fS_,f2]
     ·cases h
    ·cases h
   ·cases h
  ·rename_i s x f ho
   split at h
   ·rename_i ti cs ht hc
    split at h
    ·rename_i fs hs
     split at h
     ·rename_i d t hd
      split at h
      ·rename_i tf htf
       split at h
       ·rename_i v hv
        obtain ⟨fields,hu,hfs,hfi⟩:=H.ty.struct s ti fs ht hs
        have hx:=aB_ H.ty S s x
        rw [hc] at hx
        have hfd:∃fl,fields[f]? =some fl∧fl.offset=d∧fl.type=t:=by
          rw [←hfs] at hd
          simp only [List.getElem?_map,Option.map_eq_some_iff] at hd
          obtain ⟨fl,e1,e2⟩:=hd
          exact ⟨fl,by rw [←Array.getElem?_toList];exact e1,by simpa using congrArg Prod.fst e2,by simpa using congrArg Prod.snd e2⟩
        obtain ⟨fl,f1,f2,f3⟩:=hfd
        generalize hux:a.eval x=ux at hx
        cases hx with
        | agg hl hcell hrel=>
          rename_i us
          obtain ⟨u,g1,g2⟩:=jG_ (P:=P) H.ty htf (d:=d) ⟨hl,hcell,hrel⟩ hv
          refine aT_ (bc_ (x:=Instr.field s (a.eval x) f) (by simp only [execOp,ho]) (u:=u) ?_) (hn _ _ ρ _ w h S g2)
          rw [hux]
          simp only [Instr.field,Sem.run_bind,run_underlying hu,Result.andThen_ok,f1,asAgg,Sem.run_pure,f2,f3]
          exact g1
       ·cases h
      ·cases h
     ·cases h
    ·cases h
   ·cases h
  ·rename_i t x i ho
   split at h
   ·rename_i ti ht
    obtain ⟨v,u',g1,g2,g3⟩:=oD_ (P:=P) H.ty H.cod S ht (aB_ H.ty S t x) (aB_ H.ty S 0 i) h
    exact aT_ (bc_ (by simp only [execOp,ho]) g2) (hn _ _ ρ _ w g1 S g3)
   ·cases h
  ·rename_i t x i ho
   split at h
   ·rename_i ti ht
    split at h
    ·rename_i hs
     split at h
     ·rename_i s k n hx0 hi0
      obtain ⟨c,hc,h⟩:=bind_some h
      have h1:=aB_ H.ty S t x
      have h2:=aB_ H.ty S 0 i
      rw [hx0] at h1
      rw [hi0] at h2
      obtain ⟨e1,_⟩:=aU_ h1
      obtain ⟨e2,_⟩:=aU_ h2
      have hu:=H.ty.str t ti ht hs
      unfold tG_ at hc
      split at hc
      ·cases hc
      ·rename_i hneg
       refine aT_ (bc_ (x:=Instr.index t (a.eval x) (a.eval i)) (by simp only [execOp,ho]) (u:= .int .u8 c.toNat) ?_) (hn _ _ ρ _ w h S (.lit rfl))
       rw [e1,e2]
       simp only [Instr.index,asIntOf,Sem.run_bind,Sem.run_pure,Result.andThen_ok,run_underlying hu]
       rw [if_pos (by omega),hc]
       rfl
     ·cases h
    ·cases h
   ·cases h
  ·rename_i t i ho
   split at h
   ·rename_i vs hv
    split at h
    ·rename_i v hi
     have hx:=aB_ H.ty S 0 t
     rw [hv] at hx
     generalize hux:a.eval t=ux at hx
     cases hx with
     | tup hl hrel=>
       rename_i us
       have hlt:=(List.getElem?_eq_some_iff.mp hi).1
       have hu:us[i]? =some (us[i]'(by omega)):=List.getElem?_eq_getElem _
       refine aT_ (bc_ (x:=Instr.extract (a.eval t) i) (by simp only [execOp,ho]) (u:=us[i]'(by omega)) ?_) (hn _ _ ρ _ w h S (hrel i v _ hi hu))
       rw [hux]
       simp [Instr.extract,hu]
    ·cases h
   ·cases h
  ·rename_i c ho
   split at h
   ·rename_i b hb
    split at h
    ·
      split at h
      ·rename_i x t hx ht0
       split at h
       ·rename_i ti ht
        split at h
        ·rename_i n hlen
         have hr:=aB_ H.ty S t x
         refine aT_ (u:= .int .i64 n) (w':=w) ?_ (hn _ _ ρ _ w h S (.lit rfl))
         have ha:c.args= #[x]:=by apply Array.ext';exact hx
         have hat:c.argTypes= #[t]:=by apply Array.ext';exact ht0
         have:=vS_ (P:=P) H.ty H.cod S (ty:=o.type) ht hr hlen
         simp only [execOp,ho,resolve,hb,invoke,builtin,ha,hat,Sem.run_bind,Sem.run_pure,Result.andThen_ok]
         simp [this]
        ·cases h
       ·cases h
      ·cases h
    ·
      split at h
      ·rename_i x y t1 t2 hx ht0
       split at h
       ·rename_i i1 i2 h1 h2
        split at h
        ·rename_i e1 s1 e2 s2 hs1 hs2
         obtain ⟨v,objs',u',w',ρ',g1,g2,g3,g4⟩:=td_ (P:=P) (ty:=o.type) H.ty H.el H.cod S h1 h2 hs1 hs2 (aB_ H.ty S t1 x) (aB_ H.ty S t2 y) h
         refine aT_ (u:=u') (w':=w') ?_ (hn _ _ ρ' _ w' g1 g3 g4)
         have ha:c.args= #[x,y]:=by apply Array.ext';exact hx
         have hat:c.argTypes= #[t1,t2]:=by apply Array.ext';exact ht0
         simp only [execOp,ho,resolve,hb,invoke,builtin,ha,hat,Sem.run_bind,Sem.run_pure,Result.andThen_ok]
         simp [g2]
        ·cases h
       ·cases h
      ·cases h
    ·
      split at h
      ·rename_i x y t1 t2 hx ht0
       split at h
       ·rename_i i1 h1
        split at h
        ·rename_i e1 s1 hs1
         obtain ⟨n,objs',w',g1,g2,g3⟩:=vX_ (P:=P) (ty:=o.type) (t2:=t2) H.ty H.cod S h1 hs1 (aB_ H.ty S t1 x) (aB_ H.ty S t2 y) h
         refine aT_ (u:= .int .i64 n) (w':=w') ?_ (hn _ _ ρ _ w' g1 g3 (.lit rfl))
         have ha:c.args= #[x,y]:=by apply Array.ext';exact hx
         have hat:c.argTypes= #[t1,t2]:=by apply Array.ext';exact ht0
         simp only [execOp,ho,resolve,hb,invoke,builtin,ha,hat,Sem.run_bind,Sem.run_pure,Result.andThen_ok]
         simp [g2]
        ·cases h
       ·cases h
      ·cases h
    ·cases h
   ·rename_i f hf
    split at h
    ·rename_i Sm hlen hΓ
     have hS:=H.fn f Sm hΓ
     obtain ⟨o1,o2⟩:=tR_ H.ty S c.args.toList c.argTypes.toList (Nat.eq_of_beq_eq_true hlen)
     obtain ⟨⟨fn,f1,f2,f3⟩,_⟩:=hS
     generalize objs.length=n0 at h
     obtain ⟨ρ1,S1,l1,_,v1⟩:=ij_ H.cod (dT_ T env c.args.toList c.argTypes.toList) Sm.modes (c.args.toList.map a.eval) S o1 o2
     have hcall:=ws_ (P:=P) H.cod S1 (H.fn f Sm hΓ) (o1.trans l1.symm) v1 (K:=fun v objs=>jk_ C n0 (j7_ (dT_ T env c.args.toList c.argTypes.toList) Sm.modes) objs fun objs=>K v objs) h
     have hex:(execOp a.eval o).run P w= .ok (.enter f (c.args.toList.map a.eval).toArray) w:=by
       simp only [execOp,ho,resolve,hf,Act.eval,Deferred.ofValue,invoke,Sem.run_bind,Sem.run_pure,Result.andThen_ok,callFunc,run_program,f1]
       have f3':fn.body.isNone=false:=by cases hb:fn.body<;>simp_all
       have f2' : ¬ (fn.name = "runtime.NumGoroutine") := by simpa using f2
       simp [f2',f3']
       apply Array.ext';simp
     simp only [Oper.wp,hex,Oper.upon]
     refine hcall.mono ?_
     rintro e w' ⟨v,u,objs',ρ',rfl,g1,g2,g3⟩
     obtain ⟨objs2,ρ2,k1,k2,k3⟩:=nL_ H.cod _ g2 g1
     exact hn _ _ ρ2 _ w' k1 k2 (k3 _ _ g3)
    ·cases h
   ·cases h
  ·cases h
end
end Km
namespace Km
open Go
set_option linter.unusedVariables false
set_option linter.unusedSimpArgs false
variable {κ:Type} {Ty:κ→Type} {R:Type}
section
variable {P:Program} {C:Cod κ Ty} {T:TypeId→Option (TI κ Ty)} {Γ:FuncId→Option (aK_ κ Ty)}
variable {Mut:Nat→Prop} {Lent:Org κ Ty} {w0 w w':World} {ρ ρ' ρ2:Nat→Loc} {env:Env κ Ty} {objs objs' objs2:am_ κ Ty} {a:Act} {tm:Array Value}
variable {next:Act→World→Prop} {Q:Exit→Act→World→Prop} {o:Oper}
theorem eO_ (d:Nat) (v:AV κ Ty) (env:Env κ Ty) (i:Nat):look ((d,v)::env) i=if i=d then v else look env i:=by
  simp only [look]
  by_cases h:i=d
  ·subst h;simp
  ·rw [if_neg h]
   have:Nat.beq d i=false:=by
     cases hb:Nat.beq d i with
     | false=>rfl
     | true=>exact absurd (Nat.eq_of_beq_eq_true hb).symm h
   rw [this]
theorem SRel.setEnv (S:SRel C Mut Lent w0 ρ env objs tm w) {env':Env κ Ty} {tm':Array Value} (h:∀i,look env' i= .undef∨∃u,tm'[i]? =some u∧VRel C w Mut ρ objs (look env' i) u):SRel C Mut Lent w0 ρ env' objs tm' w:=
  {S with env:=h}
theorem SRel.know (S:SRel C Mut Lent w0 ρ env objs tm w) {d:Nat} {v:AV κ Ty} (h:∃u,tm[d]? =some u∧VRel C w Mut ρ objs v u):SRel C Mut Lent w0 ρ ((d,v)::env) objs tm w:=
  S.setEnv fun i=>by
    rw [eO_]
    split
    ·rename_i e;subst e;exact .inr h
    ·exact S.env i
theorem sE_ (S:SRel C Mut Lent w0 ρ env objs a.tmps w) {v:AV κ Ty} {u:Value} (hr:VRel C w Mut ρ objs v u) (hd:∀d,o.dst=some d→d<a.tmps.size):SRel C Mut Lent w0 ρ (put o env v) objs (a.put o.dst u).tmps w:=by
  unfold put
  split
  ·rename_i d hdd
   have hlt:=hd d hdd
   refine S.setEnv fun i=> ?_
   rw [eO_]
   have ht:(a.put o.dst u).tmps=a.tmps.setIfInBounds d u:=by simp [Act.put,hdd]
   rw [ht]
   split
   ·rename_i e;subst e
    exact .inr ⟨u,by simp [hlt],hr⟩
   ·rename_i e
    rcases S.env i with h | ⟨u',h1,h2⟩
    ·exact .inl h
    ·exact .inr ⟨u',by rw [Array.getElem?_setIfInBounds_ne (Ne.symm e)];exact h1,h2⟩
  ·rename_i hdd
   simpa [Act.put,hdd] using S
theorem o3_ (dst:Option Tmp) (u:Value):(a.put dst u).tmps.size=a.tmps.size:=by cases dst<;>simp [Act.put]
theorem h8_ (dst:Option Tmp) (u:Value):(a.put dst u).defers=a.defers:=by cases dst<;>rfl
theorem eqB_iff {p q:Bool}:eqB p q=true↔p=q:=by cases p<;>cases q<;>simp [eqB]
theorem ps_ (H:Known P C T Γ) {all:Array Oper} (S:SRel C Mut Lent w0 ρ env objs a.tmps w) (hd:∀d,o.dst=some d→d<a.tmps.size) {K:Env κ Ty→am_ κ Ty→Option R} {r:R} (h:jT_ C T Γ all o env objs K=some r)
    (hn:∀env' objs' ρ' a' w',K env' objs'=some r→SRel C Mut Lent w0 ρ' env' objs' a'.tmps w'→a'.tmps.size=a.tmps.size→a'.defers=a.defers→next a' w'):
    if Region.wanted o (yielded all a.tmps) then o.wp P a w next Q else next (a.put o.dst Go.undef) w:=by
  unfold jT_ at h
  split at h
  ·rename_i hg
   have hw:Region.wanted o (yielded all a.tmps)=true:=by simp [Region.wanted,hg]
   rw [if_pos hw]
   exact t8_ H S h fun v objs' ρ' u w' hK S' hv=>hn _ _ ρ' _ w' hK (sE_ S' hv hd) (o3_ _ _) (h8_ _ _)
  ·rename_i j want hg
   split at h
   ·cases h
   ·rename_i d hdst
    split at h
    ·rename_i b hb
     have h:=lK_ h
     have hyd:∃u,a.tmps[d]? =some u∧u= .bool b:=by
       rcases S.env d with e | ⟨u,h1,h2⟩
       ·rw [hb] at e;cases e
       ·rw [hb] at h2;exact ⟨u,h1,(aU_ h2).1⟩
     obtain ⟨u,hu1,rfl⟩:=hyd
     have hy:yielded all a.tmps j=some b:=by simp [yielded,hdst,hu1]
     have S1:SRel C Mut Lent w0 ρ ((d, .lit (.bool b))::env) objs a.tmps w:=S.know ⟨_,hu1, .lit rfl⟩
     split at h
     ·rename_i he
      have he:=eqB_iff.mp he
      have hw:Region.wanted o (yielded all a.tmps)=true:=by simp [Region.wanted,hg,hy,he]
      rw [if_pos hw]
      exact t8_ H S1 h fun v objs' ρ' u w' hK S' hv=>hn _ _ ρ' _ w' hK (sE_ S' hv hd) (o3_ _ _) (h8_ _ _)
     ·rename_i he
      have hne:b≠want:=fun e=>by rw [eqB_iff.mpr e] at he;cases he
      have hw:¬Region.wanted o (yielded all a.tmps)=true:=by simp [Region.wanted,hg,hy,hne]
      rw [if_neg hw]
      exact hn _ _ ρ _ w h (sE_ S1 .void hd) (o3_ _ _) (h8_ _ _)
    ·rename_i hb
     have hyd:∃u,a.tmps[d]? =some u∧u=Go.undef:=by
       rcases S.env d with e | ⟨u,h1,h2⟩
       ·rw [hb] at e;cases e
       ·rw [hb] at h2;cases h2;exact ⟨_,h1,rfl⟩
     obtain ⟨u,hu1,rfl⟩:=hyd
     have hy:yielded all a.tmps j=none:=by simp [yielded,hdst,hu1,Go.undef]
     have hw:¬Region.wanted o (yielded all a.tmps)=true:=by simp [Region.wanted,hg,hy]
     rw [if_neg hw]
     exact hn _ _ ρ _ w h (sE_ S .void hd) (o3_ _ _) (h8_ _ _)
    ·cases h
theorem se_ (H:Known P C T Γ) {all:Array Oper} {nt:Nat}:∀(os:List Oper) (i:Nat) (env:Env κ Ty) (objs:am_ κ Ty) (ρ:Nat→Loc) (a:Act) (w:World) {K:Env κ Ty→am_ κ Ty→Option R} {r:R},
    (∀k,os[k]? =all[i+k]?)→(∀o∈os,∀d,o.dst=some d→d<nt)→a.tmps.size=nt→SRel C Mut Lent w0 ρ env objs a.tmps w→EU_ C T Γ all os env objs K=some r→
    (∀env' objs' ρ' a' w',K env' objs'=some r→SRel C Mut Lent w0 ρ' env' objs' a'.tmps w'→a'.tmps.size=nt→a'.defers=a.defers→Q .normal a' w')→
    wpOps P all Q (List.range' i os.length) a w
  | [],i,env,objs,ρ,a,w,K,r,hos,hd,hsz,S,h,hn=>hn _ _ ρ _ _ h S hsz rfl
  | o::os,i,env,objs,ρ,a,w,K,r,hos,hd,hsz,S,h,hn=>by
    have ho:all[i]? =some o:=by have:=hos 0;simpa using this.symm
    simp only [List.length_cons,List.range'_succ,wpOps,ho]
    simp only [EU_] at h
    have hs:=ps_ (next:=wpOps P all Q (List.range' (i+1) os.length)) (Q:=Q) H S (hd:=fun d hdd=>by rw [hsz];exact hd o (by simp) d hdd) h (fun env' objs' ρ' a' w' hK S' hz hdf=>
      se_ H os (i+1) env' objs' ρ' a' w' (fun k=>by have:=hos (k+1);rw [show i+1+k=i+(k+1) by omega];simpa using this) (fun o ho=>hd o (by simp [ho])) (hz.trans hsz) S' hK
        (fun e2 o2 ρ2 a2 w2 k2 S2 z2 d2=>hn e2 o2 ρ2 a2 w2 k2 S2 z2 (d2.trans hdf)))
    split at hs
    ·rename_i hw;rw [if_pos hw];exact .inl hs
    ·rename_i hw;rw [if_neg hw];exact hs
end
end Km
namespace Km
open Go
set_option linter.unusedVariables false
set_option linter.unusedSimpArgs false
variable {κ:Type} {Ty:κ→Type} {R:Type}
section
variable {P:Program} {C:Cod κ Ty} {T:TypeId→Option (TI κ Ty)} {Γ:FuncId→Option (aK_ κ Ty)}
variable {Mut:Nat→Prop} {Lent:Org κ Ty} {w0 w w':World} {ρ ρ' ρ2:Nat→Loc} {env:Env κ Ty} {objs objs' objs2:am_ κ Ty} {tm:Array Value}
def OR (C:Cod κ Ty) (w:World) (Mut:Nat→Prop) (ρ:Nat→Loc) (objs:am_ κ Ty) (v:AV κ Ty):Option Value→Prop
  | some u=>VRel C w Mut ρ objs v u
  | none=>v= .undef
def ORL (C:Cod κ Ty) (w:World) (Mut:Nat→Prop) (ρ:Nat→Loc) (objs:am_ κ Ty):List (AV κ Ty)→List (Option Value)→Prop
  | [],[]=>True
  | v::vs,u::us=>OR C w Mut ρ objs v u∧ORL C w Mut ρ objs vs us
  | _,_=>False
structure More (C:Cod κ Ty) (w:World) (Mut:Nat→Prop) (ρ:Nat→Loc) (objs:am_ κ Ty) (ρ':Nat→Loc) (objs':am_ κ Ty):Prop where
  len:objs.length≤objs'.length
  rel:∀(v:AV κ Ty) (u:Value),VRel C w Mut ρ objs v u→VRel C w Mut ρ' objs' v u
  same:∀i,i<objs.length→objs'[i]? =objs[i]?
theorem More.refl:More C w Mut ρ objs ρ objs:=⟨Nat.le_refl _,fun _ _ h=>h,fun _ _=>rfl⟩
theorem More.trans {ρ3:Nat→Loc} {objs3:am_ κ Ty} (h:More C w Mut ρ objs ρ' objs') (g:More C w Mut ρ' objs' ρ3 objs3):More C w Mut ρ objs ρ3 objs3:=
  ⟨Nat.le_trans h.len g.len,fun v u x=>g.rel v u (h.rel v u x),fun i hi=>(g.same i (Nat.lt_of_lt_of_le hi h.len)).trans (h.same i hi)⟩
theorem OR.more (h:More C w Mut ρ objs ρ' objs') {v:AV κ Ty} {u:Option Value} (x:OR C w Mut ρ objs v u):OR C w Mut ρ' objs' v u:=by
  cases u with
  | none=>exact x
  | some u=>exact h.rel v u x
theorem ORL.more (h:More C w Mut ρ objs ρ' objs'):∀{vs:List (AV κ Ty)} {us:List (Option Value)},ORL C w Mut ρ objs vs us→ORL C w Mut ρ' objs' vs us
  | [],[],_=>trivial
  | _::_,_::_,⟨a,b⟩=>⟨a.more h,b.more h⟩
theorem SRel.pushNil (S:SRel C Mut Lent w0 ρ env objs tm w) (t:κ):∃ρ',SRel C Mut Lent w0 ρ' env (objs++[.sl t []]) tm w∧More C w Mut ρ objs ρ' (objs++[.sl t []])∧∀A,VRel C w Mut ρ' (objs++[.sl t []]) (.own objs.length) (.slice A 0 0):=by
  have nf:∀b,¬ah_ (upd ρ objs.length ⟨0,0,0,noSub⟩) (objs++[AObj.sl t []]) objs.length b:=fun b hb=>by
    unfold ah_ at hb;rw [a0_,ay_] at hb;exact hb.1 rfl
  have W:WStep w w (aN_ ρ objs) (aN_ (upd ρ objs.length ⟨0,0,0,noSub⟩) (objs++[AObj.sl t []])):=⟨fun _ _ _=>rfl,Nat.le_refl _,fun b ⟨i,hi⟩=>by
    rcases gv_ (fun _=>rfl) hi with ⟨_,h⟩ | ⟨h1,_⟩
    ·exact .inl ⟨i,h⟩
    ·subst h1;exact absurd hi (nf b)⟩
  refine ⟨upd ρ objs.length ⟨0,0,0,noSub⟩, ?_,⟨by simp,fun v u h=>h.step W (by simp) (dS_ _ _),fun i hi=>bT_ hi⟩, ?_⟩
  ·refine S.take (w':=w) (.refl objs) (fun b _ _=>rfl) (Nat.le_refl _) (.inr nf) (fun b _=>rfl) (fun W=> ?_) rfl rfl rfl
   unfold ORel;rw [a0_,ay_]
   exact ⟨Nat.le_refl _,fun h=>absurd rfl h,fun i x j cl hx=>by simp at hx,fun q hq=>by simp at hq⟩
  ·intro A
   have:=VRel.own (C:=C) (w:=w) (Mut:=Mut) (ρ:=upd ρ objs.length ⟨0,0,0,noSub⟩) (a0_ objs (.sl t [])) (A:=A) (fun h=>by rw [ay_] at h;exact absurd rfl h)
   rw [ay_] at this
   exact this
theorem SRel.pushNilRw (S:SRel C Mut Lent w0 ρ env objs tm w) {t:κ} (hx:C.xcl t=true):∃ρ',SRel C Mut Lent w0 ρ' env (objs++[.rw t [] 0 none]) tm w∧More C w Mut ρ objs ρ' (objs++[.rw t [] 0 none])∧∀A,VRel C w Mut ρ' (objs++[.rw t [] 0 none]) (.rwv objs.length) (.slice A 0 0):=by
  have nf:∀b,¬ah_ (upd ρ objs.length ⟨0,0,0,noSub⟩) (objs++[AObj.rw t [] 0 none]) objs.length b:=fun b hb=>by
    unfold ah_ at hb;rw [a0_,ay_] at hb
    rcases hb with hb | ⟨q,hb,_⟩
    ·exact hb.1 rfl
    ·exact hb rfl
  have W:WStep w w (aN_ ρ objs) (aN_ (upd ρ objs.length ⟨0,0,0,noSub⟩) (objs++[AObj.rw t [] 0 none])):=⟨fun _ _ _=>rfl,Nat.le_refl _,fun b ⟨i,hi⟩=>by
    rcases gv_ (fun _=>rfl) hi with ⟨_,h⟩ | ⟨h1,_⟩
    ·exact .inl ⟨i,h⟩
    ·subst h1;exact absurd hi (nf b)⟩
  refine ⟨upd ρ objs.length ⟨0,0,0,noSub⟩, ?_,⟨by simp,fun v u h=>h.step W (by simp) (dS_ _ _),fun i hi=>bT_ hi⟩, ?_⟩
  ·refine S.take (w':=w) (.refl objs) (fun b _ _=>rfl) (Nat.le_refl _) (.inr nf) (fun b _=>rfl) (fun W=> ?_) rfl rfl rfl
   unfold ORel;rw [a0_,ay_]
   exact ⟨hx,Nat.le_refl _,fun h=>absurd rfl h,fun i x j cl hx=>by simp at hx,fun q hq=>by simp at hq,fun q hq=>absurd rfl hq,fun p q hq=>absurd rfl hq,fun q hq=>absurd rfl hq,fun q hq=>absurd rfl hq⟩
  ·intro A
   have:=VRel.rwv (C:=C) (w:=w) (Mut:=Mut) (ρ:=upd ρ objs.length ⟨0,0,0,noSub⟩) (bb_ (a0_ objs (.rw t [] 0 none))) (A:=A) (fun h=>by rw [ay_] at h;exact absurd rfl h)
   rw [ay_] at this
   exact this
theorem nO_ (S:SRel C Mut Lent w0 ρ env objs tm w) {v:AV κ Ty} {u:Option Value} (h:OR C w Mut ρ objs v u):∃ρ',SRel C Mut Lent w0 ρ' env (nY_ C objs v).2 tm w∧More C w Mut ρ objs ρ' (nY_ C objs v).2∧OR C w Mut ρ' (nY_ C objs v).2 (nY_ C objs v).1 u:=by
  unfold nY_
  split
  ·rename_i t
   cases hx:C.xcl t with
   | true=>
     obtain ⟨ρ',h1,h2,h3⟩:=S.pushNilRw hx
     refine ⟨ρ',h1,h2, ?_⟩
     cases u with
     | none=>cases h
     | some u=>cases h;exact h3 _
   | false=>
     obtain ⟨ρ',h1,h2,h3⟩:=S.pushNil t
     refine ⟨ρ',h1,h2, ?_⟩
     cases u with
     | none=>cases h
     | some u=>cases h;exact h3 _
  ·exact ⟨ρ,S, .refl,h⟩
theorem je_:∀(vs:List (AV κ Ty)) (us:List (Option Value)) (objs:am_ κ Ty) (ρ:Nat→Loc),SRel C Mut Lent w0 ρ env objs tm w→ORL C w Mut ρ objs vs us→
    ∃ρ',SRel C Mut Lent w0 ρ' env (iT_ C objs vs).2 tm w∧More C w Mut ρ objs ρ' (iT_ C objs vs).2∧ORL C w Mut ρ' (iT_ C objs vs).2 (iT_ C objs vs).1 us
  | [],[],objs,ρ,S,_=>⟨ρ,S, .refl,trivial⟩
  | v::vs,u::us,objs,ρ,S,⟨h1,h2⟩=>by
    obtain ⟨ρ1,a1,a2,a3⟩:=nO_ S h1
    obtain ⟨ρ2,b1,b2,b3⟩:=je_ vs us _ ρ1 a1 (h2.more a2)
    exact ⟨ρ2,b1,a2.trans b2,⟨a3.more b2,b3⟩⟩
  | [],_::_,_,_,_,h=>h.elim
  | _::_,[],_,_,_,h=>h.elim
theorem gW_ {cs:List (AV κ Ty)} {us:List Value} (hl:us.length=cs.length) (h:∀(j:Nat) (cl:AV κ Ty) (u:Value),cs[j]? =some cl→us[j]? =some u→VRel C w Mut ρ objs cl u):ORL C w Mut ρ objs cs (us.map some):=by
  induction cs generalizing us with
  | nil=>cases us with | nil=>trivial | cons _ _=>simp at hl
  | cons c cs ih=>
    cases us with
    | nil=>simp at hl
    | cons u us=>exact ⟨h 0 c u rfl rfl,ih (by simpa using hl) (fun j cl u a b=>h (j+1) cl u (by simpa using a) (by simpa using b))⟩
theorem gX_ {cs:List (AV κ Ty)} {us:List Value} (h:ORL C w Mut ρ objs cs (us.map some)):us.length=cs.length∧∀(j:Nat) (cl:AV κ Ty) (u:Value),cs[j]? =some cl→us[j]? =some u→VRel C w Mut ρ objs cl u:=by
  induction cs generalizing us with
  | nil=>cases us with | nil=>exact ⟨rfl,fun j cl u h=>by simp at h⟩ | cons _ _=>exact h.elim
  | cons c cs ih=>
    cases us with
    | nil=>exact h.elim
    | cons u us=>
      obtain ⟨a,b⟩:=ih h.2
      refine ⟨by simp [a],fun j cl u' h1 h2=> ?_⟩
      cases j with
      | zero=>simp at h1 h2;subst h1;subst h2;exact h.1
      | succ j=>exact b j cl u' (by simpa using h1) (by simpa using h2)
theorem un_ (S:SRel C Mut Lent w0 ρ env objs tm w) {v:AV κ Ty} {u:Option Value} (h:OR C w Mut ρ objs v u):∃ρ',SRel C Mut Lent w0 ρ' env (sb_ C objs v).2 tm w∧More C w Mut ρ objs ρ' (sb_ C objs v).2∧OR C w Mut ρ' (sb_ C objs v).2 (sb_ C objs v).1 u:=by
  by_cases hv:∃cs,v= .agg cs
  ·obtain ⟨cs,rfl⟩:=hv
   cases u with
   | none=>cases h
   | some u=>
     cases h with
     | agg hl hcell hrel=>
       obtain ⟨ρ1,a1,a2,a3⟩:=je_ cs _ objs ρ S (gW_ hl hrel)
       obtain ⟨b1,b2⟩:=gX_ a3
       exact ⟨ρ1,a1,a2, .agg b1 hcell b2⟩
  ·have e:sb_ C objs v=nY_ C objs v:=by cases v<;>first | rfl | exact absurd ⟨_,rfl⟩ hv
   rw [e];exact nO_ S h
theorem nM_:∀(vs:List (AV κ Ty)) (us:List (Option Value)) (objs:am_ κ Ty) (ρ:Nat→Loc),SRel C Mut Lent w0 ρ env objs tm w→ORL C w Mut ρ objs vs us→
    ∃ρ',SRel C Mut Lent w0 ρ' env (fT_ C objs vs).2 tm w∧More C w Mut ρ objs ρ' (fT_ C objs vs).2∧ORL C w Mut ρ' (fT_ C objs vs).2 (fT_ C objs vs).1 us
  | [],[],objs,ρ,S,_=>⟨ρ,S, .refl,trivial⟩
  | v::vs,u::us,objs,ρ,S,⟨h1,h2⟩=>by
    obtain ⟨ρ1,a1,a2,a3⟩:=un_ S h1
    obtain ⟨ρ2,b1,b2,b3⟩:=nM_ vs us _ ρ1 a1 (h2.more a2)
    exact ⟨ρ2,b1,a2.trans b2,⟨a3.more b2,b3⟩⟩
  | [],_::_,_,_,_,h=>h.elim
  | _::_,[],_,_,_,h=>h.elim
theorem SRel.rebox (S:SRel C Mut Lent w0 ρ env objs tm w) {n:Nat} {cs cs':List (AV κ Ty)} (h:objs[n]? =some (.box cs)) (hl:cs'.length=cs.length)
    (hc:∀(j:Nat) (cl:AV κ Ty) (v:Value),cs'[j]? =some cl→w.cell? (at' (ρ n).block ((ρ n).off+j))=some v→aL_ v=true→VRel C w Mut ρ objs cl v):
    SRel C Mut Lent w0 ρ env (objs.set n (.box cs')) tm w∧∀(v:AV κ Ty) (u:Value),VRel C w Mut ρ objs v u→VRel C w Mut ρ (objs.set n (.box cs')) v u:=by
  have hlt:=(List.getElem?_eq_some_iff.mp h).1
  have hset:(objs.set n (AObj.box cs'))[n]? =some (.box cs'):=by simp [hlt]
  have hne:∀k,k≠n→(objs.set n (AObj.box cs'))[k]? =objs[k]? :=fun k h=>List.getElem?_set_ne (Ne.symm h)
  have hft:∀k b,ah_ ρ (objs.set n (AObj.box cs')) k b→ah_ ρ objs k b:=fun k b hk=>by
    by_cases e:k=n
    ·subst e;unfold ah_ at hk⊢;rw [hset] at hk;rw [h];exact hk
    ·unfold ah_ at hk⊢;rw [hne k e] at hk;exact hk
  have W:WStep w w (aN_ ρ objs) (aN_ ρ (objs.set n (AObj.box cs'))):=WStep.same fun b ⟨i,hi⟩=>⟨i,hft i b hi⟩
  have hcm:∀k,Compat ρ objs ρ (objs.set n (AObj.box cs')) k:=fun k=>by
    by_cases e:k=n
    ·subst e;unfold Compat;rw [h];exact .inl ⟨_,hset,rfl⟩
    ·exact Compat.of_eq (fun _=>hne k e) (fun _=>rfl)
  refine ⟨S.step W (by simp) hcm (fun k=> ?_) (fun i j b hi hj=>S.inj i j b (hft i b hi) (hft j b hj)) rfl rfl rfl,fun v u hv=>hv.step W (by simp) hcm⟩
  by_cases e:k=n
  ·subst e
   have ho:=S.ob k
   unfold ORel at ho⊢
   rw [h] at ho;rw [hset]
   refine ⟨ho.1,fun j cl hj=> ?_⟩
   have hjl:j<cs.length:=by have:=(List.getElem?_eq_some_iff.mp hj).1;omega
   obtain ⟨v,a1,a2,_,a4⟩:=ho.2 j _ (List.getElem?_eq_getElem hjl)
   exact ⟨v,a1,a2,(hc j cl v hj a1 a2).step W (by simp) hcm,a4⟩
  ·exact ORel.step W (by simp) hcm (S.ob k) (hne k e) rfl (fun _ _=>rfl)
theorem ia_:∀(cs:List (AV κ Ty)) (objs:am_ κ Ty),(iT_ C objs cs).1.length=cs.length
  | [],_=>rfl
  | c::cs,objs=>by simp [iT_,ia_ cs]
theorem nE_:∀(n:Nat) (objs:am_ κ Ty) (ρ:Nat→Loc),SRel C Mut Lent w0 ρ env objs tm w→
    ∃ρ',SRel C Mut Lent w0 ρ' env (g9_ C n objs) tm w∧objs.length≤(g9_ C n objs).length∧∀(v:AV κ Ty) (u:Value),VRel C w Mut ρ objs v u→VRel C w Mut ρ' (g9_ C n objs) v u
  | 0,objs,ρ,S=>⟨ρ,S,Nat.le_refl _,fun _ _ h=>h⟩
  | n+1,objs,ρ,S=>by
    obtain ⟨ρ1,a1,a2,a3⟩:=nE_ n objs ρ S
    simp only [g9_]
    split
    ·rename_i cs hcs
     have ho:=a1.ob n
     simp only [ORel,hcs] at ho
     have hor:ORL C w Mut ρ1 (g9_ C n objs) cs (((List.range cs.length).map fun j=>(w.cell? (at' (ρ1 n).block ((ρ1 n).off+j))).getD Go.undef).map some):=by
       refine gW_ (by simp) (fun j cl u hj hu=> ?_)
       obtain ⟨v,b1,_,b3,_⟩:=ho.2 j cl hj
       have hjl:=(List.getElem?_eq_some_iff.mp hj).1
       rw [List.getElem?_map,List.getElem?_range hjl] at hu
       simp only [Option.map_some,b1,Option.getD_some,Option.some.injEq] at hu
       rw [←hu];exact b3
     obtain ⟨ρ2,c1,c2,c3⟩:=je_ cs _ _ ρ1 a1 hor
     obtain ⟨d1,d2⟩:=gX_ c3
     have hn:n<(g9_ C n objs).length:=(List.getElem?_eq_some_iff.mp hcs).1
     have hcs2:(iT_ C (g9_ C n objs) cs).2[n]? =some (.box cs):=by rw [c2.same n hn];exact hcs
     have hρ:∀(u:Value),VRel C w Mut ρ2 (iT_ C (g9_ C n objs) cs).2 (.ref n 0) u→VRel C w Mut ρ1 (g9_ C n objs) (.ref n 0) u→True:=fun _ _ _=>trivial
     have hloc:ρ2 n=ρ1 n∨True:= .inr trivial
     have href:=c2.rel _ _ (VRel.ref (C:=C) (w:=w) (Mut:=Mut) (off:=0) hcs)
     have hblk:(ρ2 n).block=(ρ1 n).block∧(ρ2 n).off=(ρ1 n).off:=by
       generalize hq:Value.pointer (some (at' (ρ1 n).block ((ρ1 n).off+0)))=q at href
       cases href with
       | ref h=>simp [at'] at hq;exact ⟨hq.1.symm,hq.2.symm⟩
       | refd hc hin h=>rw [AA_ hcs2] at h;cases h
     obtain ⟨e1,e2⟩:=c1.rebox hcs2 (ia_ cs _) (fun j cl v hj hv hcl=>by
       have hjl:j<cs.length:=by have:=(List.getElem?_eq_some_iff.mp hj).1;rwa [ia_ (C:=C)] at this
       refine d2 j cl v hj ?_
       rw [List.getElem?_map,List.getElem?_range hjl]
       rw [hblk.1,hblk.2] at hv
       simp [hv])
     exact ⟨ρ2,e1,by have:=c2.len;simp;omega,fun v u h=>e2 v u (c2.rel v u (a3 v u h))⟩
    ·exact ⟨ρ1,a1,a2,a3⟩
end
end Km
namespace Km
open Go
set_option linter.unusedVariables false
set_option linter.unusedSimpArgs false
variable {κ:Type} {Ty:κ→Type} {R:Type}
section
variable {P:Program} {C:Cod κ Ty} {T:TypeId→Option (TI κ Ty)} {Γ:FuncId→Option (aK_ κ Ty)}
variable {Mut:Nat→Prop} {Lent:Org κ Ty} {w0 w w':World} {ρ ρ' ρ2:Nat→Loc} {env:Env κ Ty} {objs objs' objs2:am_ κ Ty} {tm:Array Value}
theorem qa_ {l:List Nat} (hl:∀i∈l,i<objs.length):n1_ true Mut ρ objs Mut (fQ_ ρ l) (em_ objs l):=by
  intro b k _ h h'
  rcases h' with ⟨j,hj⟩ | ⟨hb,hm⟩
  ·obtain ⟨i,_,hi⟩:=de_ hl hj
   exact h (.inl ⟨i,hi⟩)
  ·exact h (.inr ⟨hb,hm⟩)
theorem CompW.gone {id:Nat} (h:CompW ρ objs ρ' objs' id) (hg:r9_ objs id) (hin:id<objs.length):r9_ objs' id:=by
  unfold CompW at h
  split at h
  ·rename_i t xs g ho e;exact absurd e (pl_ hg.2.2.2 t xs g ho)
  ·exact h.gone hg hin
theorem CompW.strong {id:Nat} (h:CompW ρ objs ρ' objs' id) (hno:∀t xs g ho,objs[id]? ≠some (.rw t xs g ho)):Compat ρ objs ρ' objs' id:=by
  unfold CompW at h
  split at h
  ·rename_i e;exact absurd e (hno _ _ _ _)
  ·exact h
theorem CompW.transW {ρ3:Nat→Loc} {objs3:am_ κ Ty} {id:Nat} (hl:objs.length≤objs'.length) (h:CompW ρ objs ρ' objs' id) (g:CompW ρ' objs' ρ3 objs3 id):CompW ρ objs ρ3 objs3 id:=by
  by_cases hm:∃t xs gn ho,objs'[id]? =some (.rw t xs gn ho)
  ·obtain ⟨t',xs',gn',ho',e'⟩:=hm
   unfold CompW at g
   rw [e'] at g
   have nog:¬r9_ objs' id:=fun h=>pl_ h.2.2.2 _ _ _ _ e'
   by_cases ho:∃t xs gn ho,objs[id]? =some (.rw t xs gn ho)
   ·obtain ⟨t,xs,gn,hh,e⟩:=ho
    unfold CompW at h⊢
    rw [e] at h⊢
    rcases h with ⟨ys,g',h',e1,el,es⟩ | h
    ·rw [e'] at e1;cases e1
     rcases g with ⟨zs,g3,h3,e3,el3,es3⟩ | g
     ·exact .inl ⟨zs,g3,h3,e3,el3.trans el,es.trans es3⟩
     ·exact .inr g
    ·exact absurd h nog
   ·have hno:∀t xs g ho,objs[id]? ≠some (.rw t xs g ho):=fun t xs g h e=>ho ⟨t,xs,g,h,e⟩
    have hs:=h.strong hno
    unfold CompW
    split
    ·rename_i e;exact absurd e (hno _ _ _ _)
    unfold Compat at hs⊢
    split
    ·rename_i e;rw [e] at hs
     rcases hs with ⟨_,e1,_⟩ | h
     ·rw [e'] at e1;cases e1
     ·exact absurd h nog
    ·rename_i e;rw [e] at hs
     rcases hs with ⟨_,e1,_⟩ | h
     ·rw [e'] at e1;cases e1
     ·exact absurd h nog
    ·rename_i e;rw [e] at hs
     rcases hs with ⟨_,_,e1,_⟩ | h
     ·rw [e'] at e1;cases e1
     ·exact absurd h nog
    ·rename_i e;exact absurd e (hno _ _ _ _)
    ·rename_i e;rw [e] at hs
     rcases hs with ⟨ys,e1,el,es⟩ | h
     ·rw [bb_ e'] at e1;cases e1
      rcases g with ⟨zs,g3,h3,e3,el3,es3⟩ | g
      ·exact .inl ⟨zs,bb_ e3,el3.trans el,es.trans es3⟩
      ·exact .inr g
     ·exact absurd h nog
    ·rename_i e;rw [e] at hs
     exact absurd hs nog
    ·trivial
  ·exact h.trans hl (g.strong fun t xs gn ho e=>hm ⟨t,xs,gn,ho,e⟩)
theorem SRel.shrink (HC:aO_ C) (S:SRel C Mut Lent w0 ρ env objs tm w) {l:List Nat} (hn:l.Nodup) (hl:∀i∈l,i<objs.length) (hpre:∀i,i<Lent.objs.length→l[i]? =some i):
    SRel C Mut Lent w0 (fQ_ ρ l) [] (em_ objs l) tm w:=by
  refine {S with env:=fun i=> .inl rfl,ob:=fun j=> ?_,inj:=fun i j b hi hj=> ?_,live:=fun b ⟨j,hj⟩=> ?_,comp:=fun i=> ?_,len:= ?_}
  ·by_cases hj:j<l.length
   ·have hi:=hl _ (List.getElem_mem hj)
    exact ORel.ren HC (lH_ ρ objs l) (qa_ hl) (sI_ hn (List.getElem?_eq_getElem hj)) (List.getElem?_eq_getElem hi) (fun h=>by cases h) (S.ob _)
   ·unfold ORel
    have:(em_ objs l)[j]? =none:=List.getElem?_eq_none (by simp [em_];omega)
    rw [this];trivial
  ·obtain ⟨p,h1,h2⟩:=de_ hl hi
   obtain ⟨q,g1,g2⟩:=de_ hl hj
   have:=S.inj p q b h2 g2
   subst this
   have hk:=(List.getElem?_eq_some_iff.mp h1).1
   exact (List.getElem?_inj hk hn).mp (h1.trans g1.symm)
  ·obtain ⟨i,_,hi⟩:=de_ hl hj
   exact S.live b ⟨i,hi⟩
  ·by_cases hi:i<Lent.objs.length
   ·have hli:=hpre i hi
    have hio:=hl i (List.mem_of_getElem? hli)
    have hc:=S.comp i
    have hlo:(em_ objs l)[i]? =some (kw_ (j4_ l · 0) objs[i]):=by
      simp only [em_,List.getElem?_map,hli,Option.map_some,List.getElem?_eq_getElem hio]
    have hlρ:fQ_ ρ l i=ρ i:=by simp [fQ_,List.getD,hli]
    have hobj:objs[i]? =some objs[i]:=List.getElem?_eq_getElem hio
    refine hc.transW S.len ?_
    unfold CompW Compat
    rw [hobj]
    cases ho:objs[i] with
    | dead=>rw [ho] at hlo;exact (aD_ hlo)
    | box cs=>rw [ho] at hlo;exact .inl ⟨_,hlo,hlρ⟩
    | sl t xs=>rw [ho] at hlo;exact .inl ⟨xs,hlo,rfl,hlρ⟩
    | mp k v es hh=>rw [ho] at hlo;exact .inl ⟨es,_,hlo,by rw [hlρ]⟩
    | rw t xs g hh=>
      rw [ho] at hlo
      cases hh with
      | none=>exact .inl ⟨xs,0,none,hlo,rfl,by rw [hlρ];exact .refl _⟩
      | some p=>exact .inr (aD_ hlo)
    | rp t xs n=>rw [ho] at hlo;exact .inl ⟨xs,c0_ hlo,rfl,by rw [hlρ];exact .refl _⟩
   ·unfold CompW Compat
    rw [List.getElem?_eq_none (by omega)];trivial
  ·rcases Nat.eq_zero_or_pos Lent.objs.length with h0 | h0
   ·omega
   ·have h1:=hpre (Lent.objs.length-1) (by omega)
    have:=(List.getElem?_eq_some_iff.mp h1).1
    simp [em_];omega
theorem AN_ {m:Nat} {l:List Nat}:∀i,i<m→(nw_ (List.range m) l)[i]? =some i:=by
  intro i hi
  obtain ⟨k,hk⟩:=h6_ l (List.range m)
  rw [hk,List.getElem?_append_left (by simpa using hi)]
  simp [hi]
theorem Al_ {acc:List Nat} {m:Nat} (h:∀i,i<m→acc[i]? =some i):∀i,i<m→(jS_ objs acc)[i]? =some i:=by
  intro i hi
  unfold jS_
  have e1:∀(a l:List Nat),(∀i,i<m→a[i]? =some i)→∀i,i<m→(nw_ a l)[i]? =some i:=fun a l ha i hi=>by
    obtain ⟨k,hk⟩:=h6_ l a
    have:=ha i hi
    have hlt:=(List.getElem?_eq_some_iff.mp this).1
    rw [hk,List.getElem?_append_left hlt];exact this
  exact e1 _ _ (e1 _ _ h) i hi
theorem OR.ids {v:AV κ Ty} {u:Option Value} (h:OR C w Mut ρ objs v u):∀i∈bs_ v,i<objs.length:=by
  cases u with
  | none=>cases h;intro i hi;simp [bs_,hg_,d9_] at hi
  | some u=>exact k8_ h
theorem ORL.map (h:∀(v:AV κ Ty) (u:Value),VRel C w Mut ρ objs v u→VRel C w Mut ρ2 objs2 v u):∀{vs:List (AV κ Ty)} {us:List (Option Value)},ORL C w Mut ρ objs vs us→ORL C w Mut ρ2 objs2 vs us
  | [],[],_=>trivial
  | v::vs,u::us,⟨h1,h2⟩=>by
    refine ⟨?_,h2.map h⟩
    cases u with
    | none=>exact h1
    | some u=>exact h _ _ h1
theorem ORL.ids:∀{vs:List (AV κ Ty)} {us:List (Option Value)},ORL C w Mut ρ objs vs us→∀i∈vs.flatMap bs_,i<objs.length
  | [],[],_,i,hi=>by simp at hi
  | v::vs,u::us,⟨h1,h2⟩,i,hi=>by
    simp only [List.flatMap_cons,List.mem_append] at hi
    exact hi.elim (h1.ids i) (h2.ids i)
theorem ORL.ren (HC:aO_ C) {g:Nat→Option Nat} (G:Ren g ρ objs ρ2 objs2) (hX:n1_ true Mut ρ objs Mut ρ2 objs2):∀{vs:List (AV κ Ty)} {us:List (Option Value)},ORL C w Mut ρ objs vs us→ORL C w Mut ρ2 objs2 (vs.map (o5_ g)) us
  | [],[],_=>trivial
  | v::vs,u::us,⟨h1,h2⟩=>by
    refine ⟨?_,h2.ren HC G hX⟩
    cases u with
    | none=>cases h1;exact rfl
    | some u=>exact o8_ HC G hX (fun h=>by cases h) (fun h=>by cases h) h1
theorem qJ_ (S:SRel C Mut Lent w0 ρ env objs tm w) {m:Nat} {l:List Nat} {v:AV κ Ty} {u:Option Value} (h:OR C w Mut ρ objs v u):
    ∃ρ',SRel C Mut Lent w0 ρ' env (tO_ m l objs v).2 tm w∧(∀(x:AV κ Ty) (q:Value),VRel C w Mut ρ objs x q→VRel C w Mut ρ' (tO_ m l objs v).2 x q)∧OR C w Mut ρ' (tO_ m l objs v).2 (tO_ m l objs v).1 u:=by
  unfold tO_
  split
  ·rename_i id lo hi
   split
   ·split
    ·rename_i t xs hsl
     have hsl':=a7_ hsl
     have ho:=S.ob id
     simp only [ORel,hsl'] at ho
     obtain ⟨ho1,ho2,ho3,ho4⟩:=ho
     cases u with
     | none=>cases h
     | some u=>
       cases h with
       | subd hcl hin h1=>rw [h1] at hsl;cases hsl
       | @sub _ _ _ c _ _ A h1 hlo hhi hc hcap hA=>
         rw [hsl'] at h1;cases h1
         have hlen:(objs.set id AObj.dead).length=objs.length:=by simp
         have hw:=Weaker.kill objs id
         have hpz:(lo+c)*C.sz t≤(ρ id).cap*C.sz t:=Nat.mul_le_mul_right _ hcap
         rw [Nat.add_mul] at hpz
         have hS:=S.take (w':=w) (objs1:=objs.set id .dead) (o:= .sl t (dO_ xs lo hi)) (l:=⟨(ρ id).block,(ρ id).off+lo*C.sz t,c,noSub⟩) hw (fun b _ _=>rfl) (Nat.le_refl _) (by
           by_cases hc0:c=0
           ·refine .inr fun b hb=> ?_
            unfold ah_ at hb;rw [a0_,ay_] at hb;exact hb.1 hc0
           ·refine .inl (.inr ⟨⟨id,bD_ hsl' (by omega)⟩,fun i hi'=> ?_⟩)
            obtain ⟨g1,g2⟩:=eN_ hi'
            exact g1 (S.inj _ _ _ g2 (bD_ hsl' (by omega)))) (fun b _=>rfl) (fun W=>by
            unfold ORel;rw [a0_,ay_]
            refine ⟨by rw [dj_ _ _ _ hhi];exact hc,fun h=>ho2 (by show (ρ id).cap≠0;have:c≠0:=h;omega),fun i x j cl hx hj=> ?_,fun q hq=> ?_⟩
            ·obtain ⟨hx,_⟩:=iV_ hx
             obtain ⟨v,a1,a2⟩:=ho3 (lo+i) x j cl hx hj
             refine ⟨v, ?_,a2.step W (by simp) (b7_ hw _ _)⟩
             rw [Nat.add_mul] at a1
             rw [←a1]
             show w.cell? (at' (ρ id).block ((ρ id).off+lo*C.sz t+i*C.sz t+j))=_
             congr 2;omega
            ·have hq:q<c*C.sz t:=hq
             obtain ⟨v,a1,a2,a3⟩:=ho4 (lo*C.sz t+q) (by omega)
             have e:at' (ρ id).block ((ρ id).off+lo*C.sz t+q)=at' (ρ id).block ((ρ id).off+(lo*C.sz t+q)):=by rw [Nat.add_assoc]
             refine ⟨v, ?_,a2, ?_⟩
             ·show w.cell? (at' (ρ id).block ((ρ id).off+lo*C.sz t+q))=_
              rw [e];exact a1
             ·show w.frozen? (at' (ρ id).block ((ρ id).off+lo*C.sz t+q))=_
              rw [e];exact a3) rfl rfl rfl
         rw [hlen] at hS
         have hrel:∀(x:AV κ Ty) (q:Value),VRel C w Mut ρ objs x q→VRel C w Mut (upd ρ objs.length ⟨(ρ id).block,(ρ id).off+lo*C.sz t,c,noSub⟩) (objs.set id .dead++[.sl t (dO_ xs lo hi)]) x q:=fun x q hx=>by
           have W:WStep w w (aN_ ρ objs) (aN_ (upd ρ objs.length ⟨(ρ id).block,(ρ id).off+lo*C.sz t,c,noSub⟩) (objs.set id .dead++[.sl t (dO_ xs lo hi)])):=⟨fun _ _ _=>rfl,Nat.le_refl _,fun b ⟨i,hi'⟩=>by
             have hf:=gv_ (objs:=objs.set id .dead) (o:= .sl t (dO_ xs lo hi)) (l:=⟨(ρ id).block,(ρ id).off+lo*C.sz t,c,noSub⟩) (fun _=>rfl) (by rw [hlen];exact hi')
             rcases hf with ⟨_,h⟩ | ⟨h1,h2⟩
             ·exact .inl ⟨i,hw.foot h⟩
             ·by_cases hc0:c=0
              ·exfalso
               rw [hlen] at h1;subst h1
               unfold ah_ at hi'
               rw [show objs.length=(objs.set id AObj.dead).length from hlen.symm,a0_] at hi'
               rw [hlen,ay_] at hi'
               exact hi'.1 hc0
              ·rw [h2];exact .inl ⟨id,bD_ hsl' (by omega)⟩⟩
           refine hx.step W (by simp) (fun i=> ?_)
           have:=b7_ (ρ:=ρ) hw (.sl t (dO_ xs lo hi)) ⟨(ρ id).block,(ρ id).off+lo*C.sz t,c,noSub⟩ i
           rw [hlen] at this;exact this
         refine ⟨_,hS,hrel, ?_⟩
         have:=VRel.own (C:=C) (w:=w) (Mut:=Mut) (ρ:=upd ρ objs.length ⟨(ρ id).block,(ρ id).off+lo*C.sz t,c,noSub⟩) (objs:=objs.set id .dead++[.sl t (dO_ xs lo hi)]) (id:=objs.length) (t:=t) (xs:=dO_ xs lo hi) (A:=A) (by rw [←hlen];exact a0_ _ _) (fun h=>by rw [ay_] at h⊢;exact hA h)
         rw [ay_,dj_ _ _ _ hhi] at this
         exact this
    ·exact ⟨ρ,S,fun _ _ h=>h,h⟩
   ·exact ⟨ρ,S,fun _ _ h=>h,h⟩
  ·exact ⟨ρ,S,fun _ _ h=>h,h⟩
theorem pM_ {m:Nat} {l:List Nat}:∀(vs:List (AV κ Ty)) (us:List (Option Value)) (objs:am_ κ Ty) (ρ:Nat→Loc),SRel C Mut Lent w0 ρ env objs tm w→ORL C w Mut ρ objs vs us→
    ∃ρ',SRel C Mut Lent w0 ρ' env (xJ_ m l objs vs).2 tm w∧(∀(x:AV κ Ty) (q:Value),VRel C w Mut ρ objs x q→VRel C w Mut ρ' (xJ_ m l objs vs).2 x q)∧ORL C w Mut ρ' (xJ_ m l objs vs).2 (xJ_ m l objs vs).1 us
  | [],[],objs,ρ,S,_=>⟨ρ,S,fun _ _ h=>h,trivial⟩
  | v::vs,u::us,objs,ρ,S,⟨h1,h2⟩=>by
    obtain ⟨ρ1,a1,a2,a3⟩:=qJ_ S (m:=m) (l:=l) h1
    obtain ⟨ρ2,b1,b2,b3⟩:=pM_ vs us _ ρ1 a1 (h2.map a2)
    refine ⟨ρ2,b1,fun x q h=>b2 x q (a2 x q h),⟨?_,b3⟩⟩
    cases u with
    | none=>exact a3
    | some u=>exact b2 _ _ a3
  | [],_::_,_,_,_,h=>h.elim
  | _::_,[],_,_,_,h=>h.elim
theorem wD_ (S:SRel C Mut Lent w0 ρ env objs tm w) {m:Nat} {l:List Nat} {v:AV κ Ty} {u:Option Value} (h:OR C w Mut ρ objs v u):
    ∃ρ',SRel C Mut Lent w0 ρ' env (xC_ m l objs v).2 tm w∧(∀(x:AV κ Ty) (q:Value),VRel C w Mut ρ objs x q→VRel C w Mut ρ' (xC_ m l objs v).2 x q)∧OR C w Mut ρ' (xC_ m l objs v).2 (xC_ m l objs v).1 u:=by
  by_cases hv:∃cs,v= .agg cs
  ·obtain ⟨cs,rfl⟩:=hv
   cases u with
   | none=>cases h
   | some u=>
     cases h with
     | agg hl hcell hrel=>
       obtain ⟨ρ1,a1,a2,a3⟩:=pM_ (m:=m) (l:=l) cs _ objs ρ S (gW_ hl hrel)
       obtain ⟨b1,b2⟩:=gX_ a3
       exact ⟨ρ1,a1,a2, .agg b1 hcell b2⟩
  ·have e:xC_ m l objs v=tO_ m l objs v:=by cases v<;>first | rfl | exact absurd ⟨_,rfl⟩ hv
   rw [e];exact qJ_ S h
theorem qY_ {m:Nat} {l:List Nat}:∀(vs:List (AV κ Ty)) (us:List (Option Value)) (objs:am_ κ Ty) (ρ:Nat→Loc),SRel C Mut Lent w0 ρ env objs tm w→ORL C w Mut ρ objs vs us→
    ∃ρ',SRel C Mut Lent w0 ρ' env (vx_ m l objs vs).2 tm w∧(∀(x:AV κ Ty) (q:Value),VRel C w Mut ρ objs x q→VRel C w Mut ρ' (vx_ m l objs vs).2 x q)∧ORL C w Mut ρ' (vx_ m l objs vs).2 (vx_ m l objs vs).1 us
  | [],[],objs,ρ,S,_=>⟨ρ,S,fun _ _ h=>h,trivial⟩
  | v::vs,u::us,objs,ρ,S,⟨h1,h2⟩=>by
    obtain ⟨ρ1,a1,a2,a3⟩:=wD_ S (m:=m) (l:=l) h1
    obtain ⟨ρ2,b1,b2,b3⟩:=qY_ vs us _ ρ1 a1 (h2.map a2)
    refine ⟨ρ2,b1,fun x q h=>b2 x q (a2 x q h),⟨?_,b3⟩⟩
    cases u with
    | none=>exact a3
    | some u=>exact b2 _ _ a3
  | [],_::_,_,_,_,h=>h.elim
  | _::_,[],_,_,_,h=>h.elim
theorem k0_ {l:List Nat}:∀(n:Nat) (objs:am_ κ Ty),SRel C Mut Lent w0 ρ env objs tm w→SRel C Mut Lent w0 ρ env (wF_ l n objs) tm w∧∀(x:AV κ Ty) (q:Value),VRel C w Mut ρ objs x q→VRel C w Mut ρ (wF_ l n objs) x q
  | 0,objs,S=>⟨S,fun _ _ h=>h⟩
  | n+1,objs,S=>by
    simp only [wF_]
    split
    ·exact k0_ n objs S
    ·obtain ⟨h1,h2⟩:=k0_ n _ (S.kill n)
     exact ⟨h1,fun x q h=>h2 x q (h.kill n)⟩
theorem lB_ (HC:aO_ C) (S:SRel C Mut Lent w0 ρ env objs tm w) {vs:List (AV κ Ty)} {us:List (Option Value)} (h:ORL C w Mut ρ objs vs us):
    ∃ρ',SRel C Mut Lent w0 ρ' [] (kY_ C Lent.objs.length vs objs).2 tm w∧ORL C w Mut ρ' (kY_ C Lent.objs.length vs objs).2 (kY_ C Lent.objs.length vs objs).1 us:=by
  unfold kY_
  obtain ⟨ρs,Ss,hs⟩:=lt_ HC objs.length objs ρ S
  generalize pS_ C objs.length objs=objsS at Ss hs
  replace h:=h.map hs
  replace S:=Ss
  clear hs Ss
  generalize objsS=objs at S h
  generalize ρs=ρ at S h
  dsimp only
  have hp:=k0_ (l:=jS_ objs (nw_ (List.range Lent.objs.length) (vs.flatMap bs_))) objs.length objs S
  generalize wF_ (jS_ objs (nw_ (List.range Lent.objs.length) (vs.flatMap bs_))) objs.length objs=objsP at hp
  replace S:=hp.1
  replace h:=h.map hp.2
  clear hp
  generalize objsP=objs at S h
  try dsimp only
  obtain ⟨ρ0,z1,z2,z3⟩:=qY_ (m:=Lent.objs.length) (l:=vs.flatMap bs_++objs.flatMap vZ_) vs us objs ρ S h
  revert z1 z2 z3
  generalize vx_ Lent.objs.length (vs.flatMap bs_++objs.flatMap vZ_) objs vs=q0
  obtain ⟨vs,objs⟩:=q0
  intro S z2 h
  generalize ρ0=ρ at S z2 h
  dsimp only at S h⊢
  obtain ⟨ρ1,a1,a2,a3⟩:=nM_ vs us objs ρ S h
  obtain ⟨ρ2,b1,b2,b3⟩:=nE_ (fT_ C objs vs).2.length _ ρ1 a1
  have b4:ORL C w Mut ρ2 (g9_ C (fT_ C objs vs).2.length (fT_ C objs vs).2) (fT_ C objs vs).1 us:=by
    exact a3.map b3
  have hlen:Lent.objs.length≤(g9_ C (fT_ C objs vs).2.length (fT_ C objs vs).2).length:=b1.len
  have hn0:(List.range Lent.objs.length).Nodup:=List.nodup_range
  have hn:=qx_ (objs:=g9_ C (fT_ C objs vs).2.length (fT_ C objs vs).2) (fk_ (l:=(fT_ C objs vs).1.flatMap bs_) hn0)
  have hl:=w2_ b1 (fk_ (l:=(fT_ C objs vs).1.flatMap bs_) hn0) (fun i hi=>by
    rw [o1_ hn0] at hi
    rcases hi with hi | hi
    ·simp at hi;omega
    ·exact b4.ids i hi)
  refine ⟨fQ_ ρ2 _,b1.shrink HC hn hl (Al_ AN_), ?_⟩
  exact b4.ren HC (lH_ ρ2 _ _) (qa_ hl)
end
end Km
namespace Km
open Go
set_option linter.unusedVariables false
set_option linter.unusedSimpArgs false
variable {κ:Type} {Ty:κ→Type} {R α:Type}
section
variable {C:Cod κ Ty} {T:TypeId→Option (TI κ Ty)} {Γ:FuncId→Option (aK_ κ Ty)} {objs objs':am_ κ Ty} {env env':Env κ Ty}
theorem B2_ (b:Bool) (K:Bool→Option α) (F:α→Option R):ifB b (fun t=>(K t).bind F)=(ifB b K).bind F:=by cases b<;>rfl
theorem AU_ (op:BinOp) (k:IntKind) (a b:Int) (K:Value→Option α) (F:α→Option R):C7_ op k a b (fun v=>(K v).bind F)=(C7_ op k a b K).bind F:=by
  cases op<;>simp [C7_,Option.bind_assoc]
theorem Bc_ (op:BinOp) (a b:ByteArray) (K:Value→Option α) (F:α→Option R):Da_ op a b (fun v=>(K v).bind F)=(Da_ op a b K).bind F:=by
  cases op<;>simp [Da_,Option.bind_assoc]
theorem AH_ (ti:TI κ Ty) (op:BinOp) (x y:AV κ Ty) (K:AV κ Ty→Option α) (F:α→Option R):Dd_ ti op x y (fun v=>(K v).bind F)=(Dd_ ti op x y K).bind F:=by
  unfold Dd_
  split
  ·split
   ·rw [Option.bind_assoc]
   ·rfl
  ·split
   ·rw [Option.bind_assoc]
   ·rfl
  ·split
   ·split
    ·exact AU_ _ _ _ _ _ _
    ·rfl
   ·exact Bc_ _ _ _ _ _
   ·split
    ·split<;>rfl
    ·rfl
   ·rfl
theorem zZ_ (ti:TI κ Ty) (a:AV κ Ty) (K:AV κ Ty→Option α) (F:α→Option R):or_ C objs ti a (fun v=>(K v).bind F)=(or_ C objs ti a K).bind F:=by
  unfold or_
  split
  ·split
   ·split<;>rfl
   ·rfl
  ·split
   ·rename_i s xs h
    rw [Option.bind_assoc]
    congr 1;funext x
    split<;>rfl
   ·rfl
  ·split<;>rfl
  ·split
   ·rw [Option.bind_assoc]
    congr 1;funext x
    split<;>rfl
   ·rw [Option.bind_assoc]
    congr 1;funext x
    split<;>rfl
   ·rfl
  ·rfl
theorem e8_ {b0:Bool}:∀(ns:List (AV κ Ty)) (objs:am_ κ Ty) (K:List (AV κ Ty)→am_ κ Ty→Option α) (F:α→Option R),dM_ C b0 objs ns (fun a b=>(K a b).bind F)=(dM_ C b0 objs ns K).bind F
  | [],objs,K,F=>rfl
  | c::cs,objs,K,F=>by
    cases c<;>simp only [dM_]<;>first
      | rfl
      | exact e8_ cs _ _ _
      | (split
         ·first | exact e8_ cs _ _ _ | (split<;>first | exact e8_ cs _ _ _ | rfl)
         ·rfl)
theorem xy_ (ti:TI κ Ty) (a x:AV κ Ty) (K:am_ κ Ty→Option α) (F:α→Option R):nv_ C objs ti a x (fun v=>(K v).bind F)=(nv_ C objs ti a x K).bind F:=by
  unfold nv_
  split
  ·rfl
  ·split
   ·rfl
   ·split
    ·split
     ·split<;>rfl
     ·rfl
    ·split
     ·rw [Option.bind_assoc]
      congr 1;funext z
      rw [←e8_]
      congr 1;funext p q
      split
      ·split
       ·split<;>rfl
       ·rfl
      ·rfl
     ·rfl
    ·split
     ·split
      ·rw [Option.bind_assoc]
       congr 1;funext z
       rw [←e8_]
       congr 1;funext p q
       split
       ·split<;>rfl
       ·rfl
      ·rw [Option.bind_assoc]
       congr 1;funext z
       rw [←e8_]
       congr 1;funext p q
       split
       ·split<;>rfl
       ·rfl
      ·rfl
     ·rfl
    ·rfl
theorem rw_ (shp:Shp κ) (x i:AV κ Ty) (K:AV κ Ty→Option α) (F:α→Option R):d0_ C objs shp x i (fun v=>(K v).bind F)=(d0_ C objs shp x i K).bind F:=by
  unfold d0_
  split
  ·split
   ·split
    ·split
     ·split
      ·rw [Option.bind_assoc]
      ·rfl
     ·rfl
    ·split
     ·rw [Option.bind_assoc]
     ·rfl
    ·split
     ·split
      ·rw [Option.bind_assoc]
      ·rfl
     ·rfl
    ·split
     ·split
      ·rw [Option.bind_assoc]
      ·rfl
     ·rfl
    ·rfl
   ·split
    ·split
     ·split
      ·rw [Option.bind_assoc]
      ·rfl
     ·rfl
    ·rfl
   ·rfl
  ·rfl
theorem xM_ (shp:Shp κ) (x:AV κ Ty) (lo hi:Option Int) (K:AV κ Ty→Option α) (F:α→Option R):lF_ C objs shp x lo hi (fun v=>(K v).bind F)=(lF_ C objs shp x lo hi K).bind F:=by
  unfold lF_
  split
  ·split
   ·rw [Option.bind_assoc]
   ·rfl
  ·split
   ·split
    ·split
     ·rw [Option.bind_assoc]
     ·rfl
    ·rfl
   ·split
    ·rw [Option.bind_assoc]
    ·rfl
   ·rw [Option.bind_assoc]
   ·rfl
  ·split
   ·split
    ·split
     ·rw [Option.bind_assoc]
     ·rfl
    ·rfl
   ·rfl
  ·rfl
theorem tW_ (t:κ):∀(ps:List (Nat×AV κ Ty)) (n:Nat) (objs:am_ κ Ty) (K:List (Ty t)→am_ κ Ty→Option α) (F:α→Option R),n3_ C t objs n ps (fun a b=>(K a b).bind F)=(n3_ C t objs n ps K).bind F
  | [],n,objs,K,F=>rfl
  | (i,v)::ps,n,objs,K,F=>by
    simp only [n3_]
    split
    ·rfl
    ·split
     ·rfl
     ·split
      ·rfl
      ·rw [←e8_]
       congr 1;funext p q
       split
       ·exact tW_ t ps _ _ _ _
       ·rfl
theorem wl_ (s1:κ) (x y:AV κ Ty) (K:AV κ Ty→am_ κ Ty→Option α) (F:α→Option R):iY_ C objs s1 x y (fun a b=>(K a b).bind F)=(iY_ C objs s1 x y K).bind F:=by
  unfold iY_
  split
  ·rfl
  ·rw [Option.bind_assoc]
   congr 1;funext ys
   split
   ·rw [Option.bind_assoc]
    congr 1;funext zs
    split<;>rfl
   ·split
    ·simp only [Option.bind_assoc]
    ·rfl
   ·split
    ·simp only [Option.bind_assoc]
    ·rfl
   ·rfl
theorem we_ (shp:Shp κ) (x:AV κ Ty) (h m:Int) (K:AV κ Ty→Option α) (F:α→Option R):hP_ C objs shp x h m (fun v=>(K v).bind F)=(hP_ C objs shp x h m K).bind F:=by
  unfold hP_
  split
  ·split
   ·split
    ·split
     ·rw [Option.bind_assoc]
     ·rfl
    ·rfl
   ·rfl
  ·rfl
theorem zG_ (s:κ) (x y:AV κ Ty) (K:AV κ Ty→am_ κ Ty→Option α) (F:α→Option R):uS_ C objs s x y (fun a b=>(K a b).bind F)=(uS_ C objs s x y K).bind F:=by
  unfold uS_
  split
  ·rfl
  ·split
   ·split
    ·split
     ·rw [Option.bind_assoc]
     ·rfl
    ·rfl
   ·split
    ·split
     ·rw [Option.bind_assoc]
     ·rfl
    ·rfl
   ·rfl
theorem y2_ (S:aK_ κ Ty) (bs:List Nat) (args:List (AV κ Ty)) (K:AV κ Ty→am_ κ Ty→Option α) (F:α→Option R):qh_ objs S bs args (fun a b=>(K a b).bind F)=(qh_ objs S bs args K).bind F:=by
  unfold qh_
  dsimp only
  split
  ·rfl
  ·rw [Option.bind_assoc]
theorem z0_ (m id:Nat) (objs:am_ κ Ty) (K:am_ κ Ty→Option α) (F:α→Option R):uu_ C m id objs (fun o=>(K o).bind F)=(uu_ C m id objs K).bind F:=by
  unfold uu_
  split
  ·split
   ·split
    ·rfl
    ·rw [Option.bind_assoc]
     congr 1;funext x
     split<;>rfl
   ·rfl
  ·rfl
theorem r1_ (m:Nat):∀(l:List Nat) (objs:am_ κ Ty) (K:am_ κ Ty→Option α) (F:α→Option R),jk_ C m l objs (fun o=>(K o).bind F)=(jk_ C m l objs K).bind F
  | [],objs,K,F=>rfl
  | n::l,objs,K,F=>by
    simp only [jk_]
    rw [←z0_]
    congr 1;funext o
    exact r1_ m l o K F
theorem tm_ {β:Type} (o:Option β) (K0:Option α) (K1:β→Option α) (F:α→Option R):optK o (K0.bind F) (fun a=>(K1 a).bind F)=(optK o K0 K1).bind F:=by cases o<;>rfl
theorem tA_ (shp:Shp κ) (m key:AV κ Ty) (K:Nat→(k v:κ)→List (Ty k×Ty v)→Ty k→Option α) (F:α→Option R):zV_ C objs shp m key (fun i k v es x=>(K i k v es x).bind F)=(zV_ C objs shp m key K).bind F:=by
  unfold zV_
  split
  ·split
   ·split
    ·split
     ·split<;>rfl
     ·rfl
    ·rfl
   ·rfl
  ·rfl
theorem uO_ (shp:Shp κ) (m key:AV κ Ty) (z:Value) (K:AV κ Ty→Option α) (F:α→Option R):gd_ C objs shp m key z (fun v=>(K v).bind F)=(gd_ C objs shp m key z K).bind F:=by
  unfold gd_
  rw [←tA_]
  congr 1;funext _ k v es x
  rw [←tm_]
  congr 1;funext p
  split<;>rfl
theorem wY_ (objs:am_ κ Ty) (id:Nat) (k v:κ) (es:List (Ty k×Ty v)) (p:Nat×Ty v) (K:AV κ Ty→am_ κ Ty→Option α) (F:α→Option R):Az_ C objs id k v es p (fun a b=>(K a b).bind F)=(Az_ C objs id k v es p K).bind F:=by
  unfold Az_
  split<;>rfl
theorem ua_ (shp:Shp κ) (m key:AV κ Ty) (s:κ) (K:AV κ Ty→am_ κ Ty→Option α) (F:α→Option R):ha_ C objs shp m key s (fun a b=>(K a b).bind F)=(ha_ C objs shp m key s K).bind F:=by
  unfold ha_
  dsimp only
  rw [←tA_]
  congr 1;funext _ k v es x
  rw [←tm_]
  congr 1;funext p
  exact wY_ _ _ _ _ _ _ _ _
theorem ty_ (shp:Shp κ) (m key:AV κ Ty) (te:TI κ Ty) (K:AV κ Ty→am_ κ Ty→Option α) (F:α→Option R):fI_ C objs shp m key te (fun a b=>(K a b).bind F)=(fI_ C objs shp m key te K).bind F:=by
  unfold fI_
  dsimp only
  rw [←tA_]
  congr 1;funext _ k v es x
  rw [←tm_]
  congr 1
  ·split<;>rfl
  ·funext p
   exact wY_ _ _ _ _ _ _ (fun r objs=>K (.tup [r, .lit (.int .i64 (p.1:Nat))]) objs) _
theorem ur_ (objs:am_ κ Ty) (v:κ) (x:AV κ Ty) (K:Ty v→am_ κ Ty→Option α) (F:α→Option R):rd_ C objs v x (fun a b=>(K a b).bind F)=(rd_ C objs v x K).bind F:=by
  unfold rd_
  split
  ·split<;>rfl
  ·split
   ·split<;>rfl
   ·rfl
  ·rfl
theorem qd_ (shp:Shp κ) (m n x:AV κ Ty) (K:am_ κ Ty→Option α) (F:α→Option R):dk_ C objs shp m n x (fun v=>(K v).bind F)=(dk_ C objs shp m n x K).bind F:=by
  unfold dk_
  split
  ·split
   ·split
    ·split
     ·rw [Option.bind_assoc]
      congr 1;funext e
      exact ur_ _ _ _ _ _
     ·split
      ·rw [Option.bind_assoc]
       congr 1;funext e
       exact ur_ _ _ _ _ _
      ·rfl
    ·rfl
   ·rfl
  ·rfl
theorem zM_ (o:Oper) (K:AV κ Ty→am_ κ Ty→Option α) (F:α→Option R):aop C T Γ o env objs (fun a b=>(K a b).bind F)=(aop C T Γ o env objs K).bind F:=by
  unfold aop
  split
  ·rfl
  ·rfl
  ·split
   ·exact B2_ _ _ _
   ·rfl
  ·split
   ·split
    ·split
     ·split<;>rfl
     ·rfl
    ·rfl
   ·rfl
  ·split<;>rfl
  ·split
   ·split
    ·split<;>rfl
    ·rfl
   ·rfl
  ·split
   ·split
    ·split
     ·split
      ·rfl
      ·split
       ·split<;>rfl
       ·exact tW_ _ _ _ _ _ _
     ·rfl
    ·rfl
   ·rfl
  ·split
   ·exact zZ_ _ _ _ _
   ·rfl
  ·split
   ·exact xy_ _ _ _ _ _
   ·rfl
  ·split<;>rfl
  ·split
   ·split
    ·split
     ·split<;>rfl
     ·rfl
    ·exact AH_ _ _ _ _ _ _
   ·rfl
  ·split
   ·split<;>rfl
   ·rfl
  ·split
   ·split
    ·split<;>rfl
    ·split
     ·split
      ·split
       ·split
        ·split<;>rfl
        ·rfl
       ·rfl
      ·rfl
     ·rfl
    ·split
     ·split
      ·split
       ·split<;>rfl
       ·rfl
      ·rfl
     ·rfl
    ·rfl
   ·rfl
  ·split
   ·split
    ·split
     ·split
      ·rw [Option.bind_assoc]
       congr 1;funext m
       split
       ·split
        ·split<;>rfl
        ·rfl
       ·rfl
      ·rfl
     ·rfl
    ·rfl
   ·rfl
  ·split
   ·split
    ·split<;>rfl
    ·rfl
   ·rfl
  ·split
   ·rfl
   ·split
    ·split
     ·split
      ·split
       ·exact uO_ _ _ _ _ _ _
       ·exact ua_ _ _ _ _ _ _
       ·rfl
      ·rfl
     ·rfl
    ·rfl
  ·split
   ·split
    ·split
     ·exact ty_ _ _ _ _ _ _
     ·rfl
    ·rfl
   ·rfl
  ·split
   ·exact qd_ _ _ _ _ _ _
   ·rfl
  ·split
   ·split
    ·split
     ·exact xM_ _ _ _ _ _ _
     ·rfl
    ·split
     ·exact we_ _ _ _ _ _ _
     ·rfl
    ·rfl
   ·rfl
  ·split
   ·split
    ·split<;>rfl
    ·rfl
   ·rfl
  ·split
   ·split
    ·split
     ·split
      ·split<;>rfl
      ·rfl
     ·rfl
    ·rfl
   ·rfl
  ·split
   ·exact rw_ _ _ _ _ _
   ·rfl
  ·split
   ·split
    ·split
     ·rw [Option.bind_assoc]
     ·rfl
    ·rfl
   ·rfl
  ·split
   ·split<;>rfl
   ·rfl
  ·split
   ·split
    ·split
     ·split
      ·split<;>rfl
      ·rfl
     ·rfl
    ·split
     ·split
      ·split
       ·exact wl_ _ _ _ _ _
       ·rfl
      ·rfl
     ·rfl
    ·split
     ·split
      ·split
       ·exact zG_ _ _ _ _ _
       ·rfl
      ·rfl
     ·rfl
    ·rfl
   ·split
    ·rename_i S _ _
     generalize gg_ C objs (dT_ T env _ _) S.modes=p
     obtain ⟨as,o1⟩:=p
     dsimp only
     rw [←y2_]
     congr 1;funext v o
     exact r1_ _ _ _ (fun o=>K v o) F
    ·rfl
   ·rfl
  ·rfl
abbrev le_ (C:Cod κ Ty) (T:TypeId→Option (TI κ Ty)) (Γ:FuncId→Option (aK_ κ Ty)) (o:Oper) (env:Env κ Ty) (objs:am_ κ Ty):Option (AV κ Ty×am_ κ Ty):=aop C T Γ o env objs fun a b=>some (a,b)
theorem tg_ (o:Oper) (K:AV κ Ty→am_ κ Ty→Option R):aop C T Γ o env objs K=(le_ C T Γ o env objs).bind fun p=>K p.1 p.2:=zM_ o (fun a b=>some (a,b)) fun (p:AV κ Ty×am_ κ Ty)=>K p.1 p.2
theorem z6_ {o:Oper} {K:AV κ Ty→am_ κ Ty→Option R} {r:R} (h:aop C T Γ o env objs K=some r):∃v objs1,le_ C T Γ o env objs=some (v,objs1)∧K v objs1=some r:=by
  rw [tg_] at h
  cases hv:le_ C T Γ o env objs with
  | none=>rw [hv] at h;cases h
  | some p=>rw [hv] at h;exact ⟨p.1,p.2,rfl,h⟩
def yp_ (xs:List Operand) (env env':Env κ Ty):Prop:=∀t, .tmp t∈xs→look env' t=look env t
theorem jO_ {xs:List Operand} (h:yp_ xs env env') (ty:TypeId) {x:Operand} (hx:x∈xs):dN_ T env' ty x=dN_ T env ty x:=by
  cases x with
  | tmp t=>exact h t hx
  | _=>rfl
theorem h0_ {xs:List Operand} (h:yp_ xs env env') (ty:Nat→TypeId):∀(ps:List (Nat×Operand)),(∀p∈ps,p.2∈xs)→d6_ T env' ty ps=d6_ T env ty ps
  | [],_=>rfl
  | (i,x)::ps,hp=>by simp only [d6_];rw [jO_ h _ (hp (i,x) (by simp)),h0_ h ty ps (fun p m=>hp p (by simp [m]))]
theorem pO_ {xs:List Operand} (h:yp_ xs env env'):∀(as:List Operand) (ts:List TypeId),(∀a∈as,a∈xs)→dT_ T env' as ts=dT_ T env as ts
  | [],ts,_=>by simp [dT_]
  | a::as,[],_=>by simp [dT_]
  | a::as,t::ts,hp=>by simp only [dT_];rw [jO_ h _ (hp a (by simp)),pO_ h as ts (fun p m=>hp p (by simp [m]))]
theorem pX_ {o:Oper} (h:yp_ o.op.operands.toList env env') (K:AV κ Ty→am_ κ Ty→Option R):aop C T Γ o env' objs K=aop C T Γ o env objs K∧aG_ C T Γ o env' objs=aG_ C T Γ o env objs:=by
  have E:∀ty x,x∈o.op.operands.toList→dN_ T env' ty x=dN_ T env ty x:=fun ty x hx=>jO_ h ty hx
  obtain ⟨dst,op,type,pos,after,guard⟩:=o
  simp only at E h
  cases op with
  | move x=>simp only [aop,aG_,E type x (by simp [Op.operands])]<;>first | exact ⟨rfl,rfl⟩ | trivial
  | assign x=>simp only [aop,aG_,E type x (by simp [Op.operands])]<;>first | exact ⟨rfl,rfl⟩ | trivial
  | pick c a b=>simp only [aop,aG_,E _ c (by simp [Op.operands]),E _ a (by simp [Op.operands]),E _ b (by simp [Op.operands])]<;>first | exact ⟨rfl,rfl⟩ | trivial
  | alloc t=>exact ⟨rfl,rfl⟩
  | box t x=>simp only [aop,aG_,E _ x (by simp [Op.operands])]<;>first | exact ⟨rfl,rfl⟩ | trivial
  | build t ps=>
    have:=fun ty=>h0_ (T:=T) h ty ps.toList (fun p hp=>by simp only [Op.operands,Array.toList_map,List.mem_map];exact ⟨p,hp,rfl⟩)
    simp only [aop,aG_,this]<;>first | exact ⟨rfl,rfl⟩ | trivial
  | buildSlice t n ps=>
    have:=fun ty=>h0_ (T:=T) h ty ps.toList (fun p hp=>by simp only [Op.operands,Array.toList_map,List.mem_map];exact ⟨p,hp,rfl⟩)
    simp only [aop,aG_,this]
    exact ⟨trivial,trivial⟩
  | load t x=>simp only [aop,aG_,cG_,E _ x (by simp [Op.operands])]<;>first | exact ⟨rfl,rfl⟩ | trivial
  | store t x y=>simp only [aop,aG_,cG_,E _ x (by simp [Op.operands]),E _ y (by simp [Op.operands])]<;>first | exact ⟨rfl,rfl⟩ | trivial
  | nilCheck x=>simp only [aop,aG_,cG_,E _ x (by simp [Op.operands])]<;>first | exact ⟨rfl,rfl⟩ | trivial
  | binOp op t x y z=>simp only [aop,aG_,cG_,E _ x (by simp [Op.operands]),E _ y (by simp [Op.operands])]<;>first | exact ⟨rfl,rfl⟩ | trivial
  | unOp op t x=>simp only [aop,aG_,cG_,E _ x (by simp [Op.operands])]<;>first | exact ⟨rfl,rfl⟩ | trivial
  | convert s d x=>simp only [aop,aG_,cG_,E _ x (by simp [Op.operands])]<;>first | exact ⟨rfl,rfl⟩ | trivial
  | makeSlice t x y=>simp only [aop,aG_,cG_,E _ x (by simp [Op.operands]),E _ y (by simp [Op.operands])]<;>first | exact ⟨rfl,rfl⟩ | trivial
  | makeMap t r=>exact ⟨rfl,rfl⟩
  | lookup t m x ok=>simp only [aop,aG_,cG_,E _ m (by simp [Op.operands]),E _ x (by simp [Op.operands])]<;>first | exact ⟨rfl,rfl⟩ | trivial
  | mapEntry t m x=>simp only [aop,aG_,cG_,E _ m (by simp [Op.operands]),E _ x (by simp [Op.operands])]<;>first | exact ⟨rfl,rfl⟩ | trivial
  | entryStore t m n x=>simp only [aop,aG_,cG_,E _ m (by simp [Op.operands]),E _ n (by simp [Op.operands]),E _ x (by simp [Op.operands])]<;>first | exact ⟨rfl,rfl⟩ | trivial
  | slice t x lo hi mx=>
    have e1:=E t x (by simp [Op.operands])
    have e2:∀l,lo=some l→dN_ T env' 0 l=dN_ T env 0 l:=fun l hl=>E _ l (by subst hl;simp [Op.operands])
    have e3:∀l,hi=some l→dN_ T env' 0 l=dN_ T env 0 l:=fun l hl=>E _ l (by subst hl;simp [Op.operands])
    have e4:∀l,mx=some l→dN_ T env' 0 l=dN_ T env 0 l:=fun l hl=>E _ l (by subst hl;simp [Op.operands])
    simp only [aop,aG_,cG_,e1]
    refine ⟨?_,trivial⟩
    cases lo<;>cases hi<;>cases mx<;>simp [e2,e3,e4]
  | fieldAddr s x f=>simp only [aop,aG_,cG_,E _ x (by simp [Op.operands])]<;>first | exact ⟨rfl,rfl⟩ | trivial
  | field s x f=>simp only [aop,aG_,cG_,E _ x (by simp [Op.operands])]<;>first | exact ⟨rfl,rfl⟩ | trivial
  | indexAddr t x y=>simp only [aop,aG_,cG_,E _ x (by simp [Op.operands]),E _ y (by simp [Op.operands])]<;>first | exact ⟨rfl,rfl⟩ | trivial
  | index t x y=>simp only [aop,aG_,cG_,E _ x (by simp [Op.operands]),E _ y (by simp [Op.operands])]<;>first | exact ⟨rfl,rfl⟩ | trivial
  | extract x i=>simp only [aop,aG_,cG_,E _ x (by simp [Op.operands])]<;>first | exact ⟨rfl,rfl⟩ | trivial
  | call c=>
    have e0:∀a∈c.args.toList,a∈(Op.call c).operands.toList:=fun a ha=>by simp only [Op.operands,Call.operands];simp;exact .inr (by simpa using ha)
    have e1:=pO_ (T:=T) h c.args.toList c.argTypes.toList e0
    simp only [aop,aG_,e1]
    refine ⟨?_,trivial⟩
    cases hc:c.callee with
    | builtin b=>
      cases b<;>try rfl
      ·clear e1
       revert e0
       generalize c.args.toList=A
       generalize c.argTypes.toList=B
       intro e0
       rcases A with _ | ⟨x,_ | ⟨y,_ | ⟨z,A⟩⟩⟩<;>rcases B with _ | ⟨t1,_ | ⟨t2,_ | ⟨t3,B⟩⟩⟩<;>try rfl
       dsimp only
       rw [E t1 x (e0 x (by simp)),E t2 y (e0 y (by simp))]
      ·clear e1
       revert e0
       generalize c.args.toList=A
       generalize c.argTypes.toList=B
       intro e0
       rcases A with _ | ⟨x,_ | ⟨y,_ | ⟨z,A⟩⟩⟩<;>rcases B with _ | ⟨t1,_ | ⟨t2,_ | ⟨t3,B⟩⟩⟩<;>try rfl
       dsimp only
       rw [E t1 x (e0 x (by simp)),E t2 y (e0 y (by simp))]
      ·clear e1
       revert e0
       generalize c.args.toList=A
       generalize c.argTypes.toList=B
       intro e0
       rcases A with _ | ⟨x,_ | ⟨y,A⟩⟩<;>rcases B with _ | ⟨t1,_ | ⟨t2,B⟩⟩<;>try rfl
       dsimp only
       rw [E t1 x (e0 x (by simp))]
    | value f=>cases f<;>rfl
    | invoke r m=>rfl
  | _=>exact ⟨rfl,rfl⟩
end
end Km
namespace Km
open Go
set_option linter.unusedVariables false
set_option linter.unusedSimpArgs false
variable {κ:Type} {Ty:κ→Type} {R α:Type}
section
variable {C:Cod κ Ty} {T:TypeId→Option (TI κ Ty)} {Γ:FuncId→Option (aK_ κ Ty)} {objs objs':am_ κ Ty} {env env':Env κ Ty}
def Like (l:List Nat) (objs objs':am_ κ Ty):Prop:=∀id∈l,objs'[id]? =objs[id]?
theorem Like.sub {l m:List Nat} (h:Like l objs objs') (hm:∀i∈m,i∈l):Like m objs objs':=fun id hi=>h id (hm id hi)
theorem eg_ {id:Nat} (h:objs'[id]? =objs[id]?):eR_ objs' id=eR_ objs id:=by unfold eR_;rw [h]
theorem sj_ {id:Nat} (h:objs'[id]? =objs[id]?):e5_ objs' id=e5_ objs id:=by unfold e5_;rw [h]
theorem u9_ {v:AV κ Ty} {i:Nat} (h:i∈d9_ v):i∈bs_ v:=by cases v<;>first | exact h | (simp [d9_] at h)
theorem pf_ {v:AV κ Ty} (h:Like (d9_ v) objs objs'):hC_ objs' v=hC_ objs v:=by
  cases v with
  | own id=>simp only [hC_];exact eg_ (h id (by simp [d9_]))
  | sub id lo hi=>simp only [hC_];rw [eg_ (h id (by simp [d9_]))]
  | _=>rfl
theorem zw_ {id:Nat} (h:objs'[id]? =objs[id]?):jJ_ objs' id=jJ_ objs id:=by unfold jJ_;rw [h]
theorem sm_ {id:Nat} (h:objs'[id]? =objs[id]?):d7_ objs' id=d7_ objs id:=by unfold d7_;rw [h]
theorem sC_ {v:AV κ Ty} (h:Like (d9_ v) objs objs'):rowsX objs' v=rowsX objs v:=by
  cases v with
  | rwv id=>simp only [rowsX];rw [h id (by simp [d9_])]
  | xr id g i j t xs=>simp only [rowsX];rw [h id (by simp [d9_])]
  | _=>exact pf_ h
theorem qw_ {v:AV κ Ty} (h:Like (bs_ v) objs objs'):e6_ objs' v=e6_ objs v:=by
  cases v with
  | ref id off=>simp only [e6_];rw [sj_ (h id (by simp [bs_,hg_,d9_]))]
  | eref id i off=>simp only [e6_];rw [eg_ (h id (by simp [bs_,hg_,d9_]))]
  | rwp id i off=>simp only [e6_];rw [zw_ (h id (by simp [bs_,hg_,d9_]))]
  | _=>rfl
theorem ya_ {ti:TI κ Ty} {v:AV κ Ty} (h:Like (bs_ v) objs objs') (K:AV κ Ty→Option R):or_ C objs' ti v K=or_ C objs ti v K:=by
  cases v with
  | ref id off=>simp only [or_];rw [sj_ (h id (by simp [bs_,hg_,d9_]))]
  | eref id i off=>simp only [or_];rw [eg_ (h id (by simp [bs_,hg_,d9_]))]
  | rwp id i off=>simp only [or_];rw [h id (by simp [bs_,hg_,d9_])]
  | _=>rfl
theorem pk_ {shp:Shp κ} {x i:AV κ Ty} (h:Like (bs_ x) objs objs') (K:AV κ Ty→Option R):d0_ C objs' shp x i K=d0_ C objs shp x i K:=by
  unfold d0_
  split
  ·split
   ·split
    ·rename_i id;rw [eg_ (h id (by simp [bs_,hg_,d9_]))]
    ·rfl
    ·rename_i id;rw [sm_ (h id (by simp [bs_,hg_,d9_]))]
    ·rename_i id lo hi;rw [eg_ (h id (by simp [bs_,hg_,d9_]))]
    ·rfl
   ·split
    ·rename_i id;rw [eg_ (h id (by simp [bs_,hg_,d9_]))]
    ·rfl
   ·rfl
  ·rfl
theorem wB_ {shp:Shp κ} {x:AV κ Ty} {lo hi:Option Int} (h:Like (bs_ x) objs objs') (K:AV κ Ty→Option R):lF_ C objs' shp x lo hi K=lF_ C objs shp x lo hi K:=by
  unfold lF_
  split
  ·rfl
  ·split
   ·rename_i id;rw [eg_ (h id (by simp [bs_,hg_,d9_]))]
   ·rfl
   ·rfl
   ·rfl
  ·split
   ·rename_i id;rw [eg_ (h id (by simp [bs_,hg_,d9_]))]
   ·rfl
  ·rfl
theorem uN_ {shp:Shp κ} {x:AV κ Ty} {a b:Int} (h:Like (bs_ x) objs objs') (K:AV κ Ty→Option R):hP_ C objs' shp x a b K=hP_ C objs shp x a b K:=by
  unfold hP_
  split
  ·split
   ·rename_i id;rw [eg_ (h id (by simp [bs_,hg_,d9_]))]
   ·rfl
  ·rfl
theorem yk_ {shp:Shp κ} {v:AV κ Ty} (h:Like (bs_ v) objs objs'):lenOf objs' shp v=lenOf objs shp v:=by
  unfold lenOf
  split
  ·rfl
  ·split
   ·rename_i id;rw [sm_ (h id (by simp [bs_,hg_,d9_]))]
   ·rw [sC_ (h.sub fun i hi=>u9_ hi)]
  ·rfl
theorem vl_ {m:q4_} {v:AV κ Ty} (h:Like (d9_ v) objs objs'):q8_ C objs' m v=q8_ C objs m v:=by
  cases m<;>simp only [q8_]<;>rw [sC_ h]
theorem sl_ {m:q4_} {v:AV κ Ty} (h:Like (bs_ v) objs objs'):lf_ C objs' m v=lf_ C objs m v:=by
  by_cases hv:∃cs,v= .agg cs
  ·obtain ⟨cs,rfl⟩:=hv
   simp only [lf_,AV.agg.injEq]
   exact List.map_congr_left fun c hc=>vl_ (h.sub fun i hi=>by simp only [bs_,hg_,List.mem_flatMap];exact ⟨c,hc,hi⟩)
  ·have e:∀objs:am_ κ Ty,lf_ C objs m v=q8_ C objs m v:=fun objs=>by cases v<;>first | rfl | exact absurd ⟨_,rfl⟩ hv
   rw [e,e];exact vl_ (h.sub fun i hi=>u9_ hi)
theorem mX_:∀{vs:List (AV κ Ty)} (ms:List q4_),Like (vs.flatMap bs_) objs objs'→eJ_ C objs' vs ms=eJ_ C objs vs ms
  | [],ms,_=>by cases ms<;>rfl
  | v::vs,m::ms,h=>by
    simp only [eJ_]
    rw [sl_ (h.sub fun i hi=>by simp [hi]),mX_ ms (h.sub fun i hi=>by simp only [List.flatMap_cons,List.mem_append];exact .inr hi)]
  | v::vs,[],h=>by
    simp only [eJ_]
    rw [sl_ (h.sub fun i hi=>by simp [hi]),mX_ [] (h.sub fun i hi=>by simp only [List.flatMap_cons,List.mem_append];exact .inr hi)]
def Keeps (l:List Nat) (objs objs1:am_ κ Ty):Prop:=objs.length≤objs1.length∧∀id,id∉l→id<objs.length→objs1[id]? =objs[id]?
theorem Keeps.refl (l:List Nat):Keeps l objs objs:=⟨Nat.le_refl _,fun _ _ _=>rfl⟩
theorem Keeps.trans {l m:List Nat} {o1 o2:am_ κ Ty} (h:Keeps l objs o1) (h':Keeps m o1 o2):Keeps (l++m) objs o2:=
  ⟨Nat.le_trans h.1 h'.1,fun id hn hi=>by simp at hn;rw [h'.2 id hn.2 (by have:=h.1;omega),h.2 id hn.1 hi]⟩
theorem Keeps.sub {l m:List Nat} {o1:am_ κ Ty} (h:Keeps l objs o1) (hm:∀i∈l,i∈m):Keeps m objs o1:=⟨h.1,fun id hn hi=>h.2 id (fun h'=>hn (hm id h')) hi⟩
theorem Keeps.set {l:List Nat} {id:Nat} (h:id∈l) (o:AObj κ Ty):Keeps l objs (objs.set id o):=⟨by simp,fun k hk _=>List.getElem?_set_ne (fun e=>hk (by rw [←e];exact h))⟩
theorem Keeps.push {l:List Nat} {o1:am_ κ Ty} (h:Keeps l objs o1) (os:List (AObj κ Ty)):Keeps l objs (o1++os):=
  ⟨by have:=h.1;simp;omega,fun id hn hi=>by rw [List.getElem?_append_left (by have:=h.1;omega)];exact h.2 id hn hi⟩
theorem dh_ {b0:Bool}:∀{ns:List (AV κ Ty)} {objs:am_ κ Ty} {K:List (AV κ Ty)→am_ κ Ty→Option R} {r:R},dM_ C b0 objs ns K=some r→∃ns' o1,K ns' o1=some r∧Keeps (ns.flatMap d9_) objs o1
  | [],objs,K,r,h=>⟨_,_,h, .refl _⟩
  | c::cs,objs,K,r,h=>by
    simp only [dM_] at h
    split at h
    ·rename_i id
     split at h
     ·split at h
      ·obtain ⟨ns',o1,h1,h2⟩:=dh_ h
       exact ⟨_,o1,h1,((Keeps.set (l:=[id]) (by simp) _).trans h2).sub (by simp [d9_])⟩
      ·cases h
     ·cases h
    ·split at h
     ·obtain ⟨ns',o1,h1,h2⟩:=dh_ h
      exact ⟨_,o1,h1,h2.sub (by simp [d9_])⟩
     ·cases h
    ·obtain ⟨ns',o1,h1,h2⟩:=dh_ h
     exact ⟨_,o1,h1,h2.sub (by simp [d9_])⟩
    ·obtain ⟨ns',o1,h1,h2⟩:=dh_ h
     exact ⟨_,o1,h1,h2.sub (by simp [d9_])⟩
    ·cases h
theorem h1_ {x:AV κ Ty} {ns:List (AV κ Ty)} (h:cellsOf x=some ns):∀i∈ns.flatMap d9_,i∈bs_ x:=by
  cases x<;>simp only [cellsOf,Option.some.injEq,reduceCtorEq] at h<;>subst h<;>intro i hi<;>first | (simp [d9_] at hi;done) | (simpa [bs_,hg_] using hi)
theorem t4_ {ti:TI κ Ty} {a x:AV κ Ty} {K:am_ κ Ty→Option R} {r:R} (h:nv_ C objs ti a x K=some r):∃o1,K o1=some r∧Keeps (bs_ a++bs_ x) objs o1:=by
  unfold nv_ at h
  split at h
  ·cases h
  ·rename_i ns hns
   split at h
   ·cases h
   ·split at h
    ·split at h
     ·split at h
      ·exact ⟨_,h, .set (by simp [bs_,hg_,d9_]) _⟩
      ·cases h
     ·cases h
    ·rename_i id i off
     split at h
     ·obtain ⟨z,_,h⟩:=bind_some h
      obtain ⟨ns',o1,h,hk⟩:=dh_ h
      split at h
      ·split at h
       ·split at h
        ·refine ⟨_,h, ?_⟩
         refine (hk.trans (Keeps.set (l:=[id]) (by simp) _)).sub ?_
         intro j hj
         simp only [List.mem_append] at hj⊢
         rcases hj with hj | hj
         ·exact .inr (h1_ hns j hj)
         ·exact .inl (by simpa [bs_,hg_,d9_] using hj)
        ·cases h
       ·cases h
      ·cases h
     ·cases h
    ·rename_i id i off
     split at h
     ·split at h
      ·obtain ⟨z,_,h⟩:=bind_some h
       obtain ⟨ns',o1,h,hk⟩:=dh_ h
       split at h
       ·split at h
        ·refine ⟨_,h, ?_⟩
         refine (hk.trans (Keeps.set (l:=[id]) (by simp) _)).sub ?_
         intro j hj
         simp only [List.mem_append] at hj⊢
         rcases hj with hj | hj
         ·exact .inr (h1_ hns j hj)
         ·exact .inl (by simpa [bs_,hg_,d9_] using hj)
        ·cases h
       ·cases h
      ·obtain ⟨z,_,h⟩:=bind_some h
       obtain ⟨ns',o1,h,hk⟩:=dh_ h
       split at h
       ·split at h
        ·refine ⟨_,h, ?_⟩
         refine (hk.trans (Keeps.set (l:=[id]) (by simp) _)).sub ?_
         intro j hj
         simp only [List.mem_append] at hj⊢
         rcases hj with hj | hj
         ·exact .inr (h1_ hns j hj)
         ·exact .inl (by simpa [bs_,hg_,d9_] using hj)
        ·cases h
       ·cases h
      ·cases h
     ·cases h
    ·cases h
theorem pa_ {t:κ}:∀{ps:List (Nat×AV κ Ty)} {n:Nat} {objs:am_ κ Ty} {K:List (Ty t)→am_ κ Ty→Option R} {r:R},n3_ C t objs n ps K=some r→∃ys o1,K ys o1=some r∧Keeps (ps.flatMap fun p=>bs_ p.2) objs o1
  | [],n,objs,K,r,h=>⟨_,_,h, .refl _⟩
  | (i,v)::ps,n,objs,K,r,h=>by
    simp only [n3_] at h
    split at h
    ·cases h
    ·split at h
     ·cases h
     ·rename_i ns hns
      split at h
      ·cases h
      ·obtain ⟨ns',o1,h,hk⟩:=dh_ h
       split at h
       ·obtain ⟨ys,o2,h,hk'⟩:=pa_ h
        refine ⟨_,o2,h,(hk.trans hk').sub fun i hi=> ?_⟩
        simp only [List.mem_append,List.flatMap_cons] at hi⊢
        exact hi.imp (h1_ hns i) id
       ·cases h
theorem sR_ {s1:κ} {x y:AV κ Ty} {K:AV κ Ty→am_ κ Ty→Option R} {r:R} (h:iY_ C objs s1 x y K=some r):∃v o1,K v o1=some r∧Keeps (bs_ x) objs o1:=by
  unfold iY_ at h
  split at h
  ·cases h
  ·obtain ⟨ys,_,h⟩:=bind_some h
   split at h
   ·obtain ⟨zs,_,h⟩:=bind_some h
    split at h<;>exact ⟨_,_,h,(Keeps.refl _).push _⟩
   ·split at h
    ·obtain ⟨_,_,h⟩:=bind_some h
     obtain ⟨zs,_,h⟩:=bind_some h
     exact ⟨_,_,h,(Keeps.set (by simp [bs_,hg_,d9_]) _).push _⟩
    ·cases h
   ·split at h
    ·obtain ⟨_,_,h⟩:=bind_some h
     obtain ⟨zs,_,h⟩:=bind_some h
     exact ⟨_,_,h,(Keeps.set (by simp [bs_,hg_,d9_]) _).push _⟩
    ·cases h
   ·cases h
theorem wE_ {s1:κ} {x y:AV κ Ty} {K:AV κ Ty→am_ κ Ty→Option R} {r:R} (h:uS_ C objs s1 x y K=some r):∃v o1,K v o1=some r∧Keeps (bs_ x++bs_ y) objs o1:=by
  unfold uS_ at h
  split at h
  ·cases h
  ·split at h
   ·split at h
    ·split at h
     ·obtain ⟨_,_,h⟩:=bind_some h
      exact ⟨_,_,h,Keeps.set (by simp [bs_,hg_,d9_]) _⟩
     ·cases h
    ·cases h
   ·split at h
    ·split at h
     ·obtain ⟨_,_,h⟩:=bind_some h
      exact ⟨_,_,h,Keeps.set (by simp [bs_,hg_,d9_]) _⟩
     ·cases h
    ·cases h
   ·cases h
theorem ns_ (id:Nat) (objs:am_ κ Ty):Keeps (iB_ objs [id]) objs (kv_ C id objs):=by
  unfold kv_
  split
  ·rename_i k v es i j hid
   split
   ·split
    ·exact .refl _
    ·split
     ·refine ⟨by simp,fun q hq _=> ?_⟩
      simp only [iB_,List.flatMap_cons,List.flatMap_nil,hid,vZ_,List.append_nil,List.mem_append,List.mem_singleton,not_or] at hq
      rw [List.getElem?_set_ne (Ne.symm hq.1),List.getElem?_set_ne (Ne.symm hq.2)]
     ·exact .refl _
   ·exact .refl _
  ·exact .refl _
theorem wP_ {shp:Shp κ} {m key:AV κ Ty} {K:Nat→(k v:κ)→List (Ty k×Ty v)→Ty k→Option R} {r:R} (h:zV_ C objs shp m key K=some r):∃id k v es x,m= .mapv id∧K id k v es x=some r:=by
  unfold zV_ at h
  split at h
  ·split at h
   ·split at h
    ·split at h
     ·split at h
      ·exact ⟨_,_,_,_,_,rfl,h⟩
      ·cases h
     ·cases h
    ·cases h
   ·cases h
  ·cases h
theorem tL_ {α:Type} {o:Option α} {K0:Option R} {K1:α→Option R} {r:R} (h:optK o K0 K1=some r):K0=some r∨∃a,K1 a=some r:=by
  cases o with
  | none=>exact .inl h
  | some a=>exact .inr ⟨a,h⟩
theorem sh_ {id:Nat} {k v:κ} {es:List (Ty k×Ty v)} {p:Nat×Ty v} {K:AV κ Ty→am_ κ Ty→Option R} {r:R} (h:Az_ C objs id k v es p K=some r):∃x o1,K x o1=some r∧Keeps [id] objs o1:=by
  unfold Az_ at h
  split at h
  ·exact ⟨_,_,h, .refl _⟩
  ·exact ⟨_,_,h,(Keeps.set (by simp) _).push _⟩
  ·cases h
theorem pE_ {objs:am_ κ Ty} {l:List Nat} {i:Nat} (h:i∈l):i∈iB_ objs l:=by simp [iB_,h]
theorem re_ {shp:Shp κ} {m key:AV κ Ty} {s:κ} {K:AV κ Ty→am_ κ Ty→Option R} {r:R} (h:ha_ C objs shp m key s K=some r):∃x o1,K x o1=some r∧Keeps (iB_ objs (bs_ m)) objs o1:=by
  unfold ha_ at h
  dsimp only at h
  obtain ⟨id,k,v,es,x,rfl,h⟩:=wP_ h
  have hs:=ns_ (C:=C) id objs
  rcases tL_ h with h | ⟨p,h⟩
  ·exact ⟨_,_,h,hs⟩
  ·obtain ⟨y,o1,h1,h2⟩:=sh_ h
   exact ⟨y,o1,h1,(hs.trans h2).sub fun q hq=>by
     simp only [List.mem_append,List.mem_singleton] at hq
     rcases hq with hq | rfl
     ·exact hq
     ·exact pE_ (by simp [bs_,hg_,d9_])⟩
theorem qk_ {shp:Shp κ} {m key:AV κ Ty} {te:TI κ Ty} {K:AV κ Ty→am_ κ Ty→Option R} {r:R} (h:fI_ C objs shp m key te K=some r):∃x o1,K x o1=some r∧Keeps (iB_ objs (bs_ m)) objs o1:=by
  unfold fI_ at h
  dsimp only at h
  obtain ⟨id,k,v,es,x,rfl,h⟩:=wP_ h
  have hs:=ns_ (C:=C) id objs
  have hsub:∀q∈iB_ objs [id]++[id],q∈iB_ objs (bs_ (AV.mapv (κ:=κ) (Ty:=Ty) id)):=fun q hq=>by
    simp only [List.mem_append,List.mem_singleton] at hq
    rcases hq with hq | rfl
    ·exact hq
    ·exact pE_ (by simp [bs_,hg_,d9_])
  rcases tL_ h with h | ⟨p,h⟩
  ·split at h
   ·exact ⟨_,_,h,(hs.trans (Keeps.set (l:=[id]) (by simp [wN_]) _)).sub hsub⟩
   ·cases h
  ·obtain ⟨y,o1,h1,h2⟩:=sh_ h
   exact ⟨_,o1,h1,(hs.trans h2).sub hsub⟩
theorem vT_ {v:κ} {x:AV κ Ty} {K:Ty v→am_ κ Ty→Option R} {r:R} (h:rd_ C objs v x K=some r):∃y o1,K y o1=some r∧Keeps (bs_ x) objs o1:=by
  unfold rd_ at h
  split at h
  ·split at h
   ·exact ⟨_,_,h, .refl _⟩
   ·cases h
  ·split at h
   ·split at h
    ·exact ⟨_,_,h,Keeps.set (by simp [bs_,hg_,d9_]) _⟩
    ·cases h
   ·cases h
  ·cases h
theorem m2_ {shp:Shp κ} {m n x:AV κ Ty} {K:am_ κ Ty→Option R} {r:R} (h:dk_ C objs shp m n x K=some r):∃o1,K o1=some r∧Keeps (bs_ m++bs_ x) objs o1:=by
  unfold dk_ at h
  split at h
  ·rename_i id kk q
   split at h
   ·split at h
    ·have key:∀{k' v':κ} {es:List (Ty k'×Ty v')},((idx es q).bind fun e=>rd_ C objs v' x fun y objs=>K (objs.set id (.mp k' v' (es.set q.toNat (e.1,y)) none)))=some r→∃o1,K o1=some r∧Keeps (bs_ (AV.mapv (κ:=κ) (Ty:=Ty) id)++bs_ x) objs o1:=fun h=>by
       obtain ⟨e,_,h⟩:=bind_some h
       obtain ⟨y,o1,h1,h2⟩:=vT_ h
       exact ⟨_,h1,(h2.trans (Keeps.set (l:=bs_ (AV.mapv (κ:=κ) (Ty:=Ty) id)) (by simp [bs_,hg_,d9_]) _)).sub fun q hq=>by
         simp only [List.mem_append] at hq⊢;exact hq.symm⟩
     split at h
     ·exact key h
     ·split at h
      ·exact key h
      ·cases h
    ·cases h
   ·cases h
  ·cases h
theorem sY_ {shp:Shp κ} {m key:AV κ Ty} {z:Value} (h:Like (bs_ m) objs objs') (K:AV κ Ty→Option R):gd_ C objs' shp m key z K=gd_ C objs shp m key z K:=by
  unfold gd_ zV_
  split
  ·rename_i id
   rw [h id (by simp [bs_,hg_,d9_])]
  ·rfl
theorem vw_ {S:aK_ κ Ty} {bs:List Nat} {args:List (AV κ Ty)} {K:AV κ Ty→am_ κ Ty→Option R} {r:R} (h:qh_ objs S bs args K=some r):
    ∃v o1,K v o1=some r∧Keeps (jS_ objs (nw_ [] (args.flatMap bs_))) objs o1:=by
  unfold qh_ at h
  dsimp only at h
  split at h
  ·cases h
  ·obtain ⟨q,_,h⟩:=bind_some h
   refine ⟨_,_,h,Keeps.push ⟨by rw [bA_];exact Nat.le_refl _,fun id hn hi=>lN_ _ _ _ _ _ hn⟩ _⟩
theorem go_:∀(cs:List (AV κ Ty)) (objs:am_ κ Ty),Keeps (cs.flatMap d9_) objs (eK_ C objs cs).2
  | [],objs=> .refl _
  | c::cs,objs=>by
    have same:=(go_ cs objs).sub (m:=(c::cs).flatMap d9_) fun i hi=>by simp only [List.flatMap_cons,List.mem_append];exact .inr hi
    simp only [eK_]
    split
    ·rename_i id
     split
     ·refine ((Keeps.set (l:=[id]) (by simp) _).trans (go_ cs _)).sub fun i hi=> ?_
      simpa [d9_] using hi
     ·exact same
    ·rename_i id
     split
     ·split
      ·refine ((Keeps.set (l:=[id]) (by simp) _).trans (go_ cs _)).sub fun i hi=> ?_
       simpa [d9_] using hi
      ·exact same
     ·exact same
    ·exact same
theorem tX_:∀(cs:List (AV κ Ty)) (objs:am_ κ Ty),(eK_ C objs cs).1.length=cs.length
  | [],objs=>rfl
  | c::cs,objs=>by
    have h:=tX_ cs
    simp only [eK_]
    split<;>(repeat' split)<;>simp [h]
theorem mJ_:∀(cs:List (AV κ Ty)) (objs:am_ κ Ty),cs.flatMap d9_=[]→eK_ C objs cs=(cs,objs)
  | [],objs,_=>rfl
  | c::cs,objs,h=>by
    simp only [List.flatMap_cons,List.append_eq_nil_iff] at h
    have hc:=mJ_ cs objs h.2
    simp only [eK_]
    split
    ·have:=h.1;simp [d9_] at this
    ·have:=h.1;simp [d9_] at this
    ·rw [hc]
theorem nF_ (x:AV κ Ty) (objs:am_ κ Ty) (hv:¬∃cs,x= .agg cs):rE_ C objs x=(match eK_ C objs [x] with | ([v],o)=>(v,o) | _=>(x,objs)):=by cases x<;>first | rfl | exact absurd ⟨_,rfl⟩ hv
theorem wm_ (x:AV κ Ty) (objs:am_ κ Ty):Keeps (bs_ x) objs (rE_ C objs x).2:=by
  by_cases hv:∃cs,x= .agg cs
  ·obtain ⟨cs,rfl⟩:=hv
   exact (go_ cs objs).sub fun i hi=>by simpa [bs_,hg_] using hi
  ·rw [nF_ x objs hv]
   have h1:=go_ (C:=C) [x] objs
   have h2:=tX_ (C:=C) [x] objs
   generalize eK_ C objs [x]=p at h1 h2
   obtain ⟨vs,o⟩:=p
   match vs,h2 with
   | [v],_=>exact h1.sub fun i hi=>u9_ (by simpa using hi)
theorem yf_ (x:AV κ Ty) (objs:am_ κ Ty) (h:bs_ x=[]):rE_ C objs x=(x,objs):=by
  by_cases hv:∃cs,x= .agg cs
  ·obtain ⟨cs,rfl⟩:=hv
   simp only [rE_]
   rw [mJ_ cs objs (by simpa [bs_,hg_] using h)]
  ·rw [nF_ x objs hv,mJ_ [x] objs (by
    simp only [List.flatMap_cons,List.flatMap_nil,List.append_nil]
    exact List.eq_nil_iff_forall_not_mem.mpr fun i hi=>by have:=u9_ hi;rw [h] at this;simp at this)]
theorem ez_:∀(xs:List (AV κ Ty)) (ms:List q4_) (objs:am_ κ Ty),Keeps (j7_ xs ms) objs (gg_ C objs xs ms).2
  | [],ms,objs=>by cases ms<;>exact .refl _
  | x::xs,[],objs=> .refl _
  | x::xs,m::ms,objs=>by
    simp only [gg_,j7_]
    split
    ·rename_i id g i j t ys
     split
     ·split
      ·refine (((Keeps.set (l:=[id]) (by simp) _).push _).trans (ez_ xs ms _)).sub fun i hi=> ?_
       simpa using hi
      ·exact (ez_ xs ms objs).sub fun i hi=>List.mem_cons_of_mem _ hi
     ·exact (ez_ xs ms objs).sub fun i hi=>List.mem_cons_of_mem _ hi
    ·exact (wm_ x objs).trans (ez_ xs ms _)
    ·rename_i h2 h1
     cases m
     case mv=>cases x<;>first | exact ez_ xs ms objs | exact (h1 _ _ _ _ _ _ rfl rfl).elim
     case gv=>exact (h2 rfl).elim
     all_goals exact ez_ xs ms objs
theorem vH_ {m id:Nat} {K:am_ κ Ty→Option R} {r:R} (h:uu_ C m id objs K=some r):∃o1,K o1=some r∧objs.length≤o1.length∧∀q,q≠id→q<m→o1[q]? =objs[q]? :=by
  unfold uu_ at h
  split at h
  ·split at h
   ·split at h
    ·cases h
    ·rename_i hc
     simp only [Bool.or_eq_false_iff,Bool.not_eq_false',Bool.and_eq_true] at hc
     have hm:=Nat.le_of_ble_eq_true hc.2.2
     obtain ⟨x,_,h⟩:=bind_some h
     split at h
     ·refine ⟨_,h,by simp,fun q h1 h2=> ?_⟩
      rw [List.getElem?_set_ne (Ne.symm h1),List.getElem?_set_ne (by omega)]
     ·cases h
   ·cases h
  ·exact ⟨_,h,Nat.le_refl _,fun _ _ _=>rfl⟩
theorem nQ_ {m:Nat} {K:am_ κ Ty→Option R} {r:R}:∀{l:List Nat} {objs:am_ κ Ty},jk_ C m l objs K=some r→∃o1,K o1=some r∧objs.length≤o1.length∧∀q,q∉l→q<m→o1[q]? =objs[q]?
  | [],objs,h=>⟨_,h,Nat.le_refl _,fun _ _ _=>rfl⟩
  | n::l,objs,h=>by
    simp only [jk_] at h
    obtain ⟨o1,h1,h2,h3⟩:=vH_ h
    obtain ⟨o2,g1,g2,g3⟩:=nQ_ h1
    refine ⟨o2,g1,by omega,fun q hq hm=> ?_⟩
    simp only [List.mem_cons,not_or] at hq
    rw [g3 q hq.2 hm,h3 q hq.1 hm]
theorem qA_:∀{xs:List (AV κ Ty)} {ms:List q4_} {objs:am_ κ Ty},(eJ_ C objs xs ms).flatMap bs_=[]→j7_ xs ms=[]∧∀objs':am_ κ Ty,gg_ C objs' xs ms=(xs,objs')
  | [],ms,objs,h=>by cases ms<;>exact ⟨rfl,fun _=>rfl⟩
  | x::xs,[],objs,h=>⟨rfl,fun _=>rfl⟩
  | x::xs,m::ms,objs,h=>by
    simp only [eJ_,List.flatMap_cons,List.append_eq_nil_iff] at h
    obtain ⟨h1,h2⟩:=qA_ h.2
    simp only [j7_,gg_]
    split
    ·have:=h.1
     simp [lf_,q8_,bs_,hg_,d9_] at this
    ·have hx:bs_ x=[]:=by
       have:=h.1
       by_cases hv:∃cs,x= .agg cs
       ·obtain ⟨cs,rfl⟩:=hv
        have e:(cs.map (q8_ C objs .gv))=cs:=List.map_congr_left (fun c _=>rfl) |>.trans (List.map_id _)
        simpa [lf_,e] using this
       ·have e:lf_ C objs .gv x=x:=by cases x<;>first | rfl | exact absurd ⟨_,rfl⟩ hv
        rw [e] at this;exact this
     exact ⟨by rw [hx,h1];rfl,fun objs'=>by rw [yf_ x objs' hx];dsimp only;rw [h2]⟩
    ·rename_i g2 g1
     refine ⟨?_,fun objs'=> ?_⟩
     ·cases m
      case mv=>cases x<;>first | exact h1 | exact (g1 _ _ _ _ _ _ rfl rfl).elim
      case gv=>exact (g2 rfl).elim
      all_goals exact h1
     ·cases m
      case mv=>cases x<;>first | (rw [h2];done) | (simp only [h2];done) | exact (g1 _ _ _ _ _ _ rfl rfl).elim
      case gv=>exact (g2 rfl).elim
      all_goals simp only [h2]
theorem t0_ {g g':Nat→Option Nat} {v:AV κ Ty} (h:d9_ v=[]):np_ g v=np_ g' v:=by cases v<;>first | rfl | (simp [d9_] at h)
theorem ug_ {g g':Nat→Option Nat} {v:AV κ Ty} (h:hg_ v=[]):Ax_ g v=Ax_ g' v:=by
  by_cases hv:∃cs,v= .agg cs
  ·obtain ⟨cs,rfl⟩:=hv
   simp only [Ax_,AV.agg.injEq]
   exact List.map_congr_left fun c hc=>t0_ (by simp only [hg_,List.flatMap_eq_nil_iff] at h;exact h c hc)
  ·have e:∀g,Ax_ g v=np_ g v:=fun g=>by cases v<;>first | rfl | exact absurd ⟨_,rfl⟩ hv
   rw [e,e];exact t0_ (by cases v<;>first | exact h | exact absurd ⟨_,rfl⟩ hv)
theorem At_ {g g':Nat→Option Nat} {v:AV κ Ty} (h:bs_ v=[]):o5_ g v=o5_ g' v:=by
  by_cases hv:∃vs,v= .tup vs
  ·obtain ⟨vs,rfl⟩:=hv
   simp only [o5_,AV.tup.injEq]
   exact List.map_congr_left fun c hc=>ug_ (by simp only [bs_,List.flatMap_eq_nil_iff] at h;exact h c hc)
  ·have e:∀g,o5_ g v=Ax_ g v:=fun g=>by cases v<;>first | rfl | exact absurd ⟨_,rfl⟩ hv
   rw [e,e];exact ug_ (by cases v<;>first | exact h | exact absurd ⟨_,rfl⟩ hv)
theorem isNil_iff {α:Type} {l:List α}:wp_ l=true↔l=[]:=by cases l<;>simp [wp_]
def QuietOk (Γ:FuncId→Option (aK_ κ Ty)):Prop:=∀f S,Γ f=some S→S.quiet=true→∀r,(S.ret r).2=[]∧bs_ (S.ret r).1=[]
theorem vC_ {S:aK_ κ Ty} {bs:List Nat} {args:List (AV κ Ty)} (hS:∀r,(S.ret r).2=[]∧bs_ (S.ret r).1=[]) (ha:args.flatMap bs_=[]) {v:AV κ Ty} {o1:am_ κ Ty}
    (h:(qh_ objs S bs args fun a b=>some (a,b))=some (v,o1)):o1=objs∧∀objs':am_ κ Ty,(qh_ objs' S bs args fun a b=>some (a,b))=some (v,objs'):=by
  have hl:∀objs:am_ κ Ty,jS_ objs (nw_ [] (args.flatMap bs_))=[]:=fun objs=>by rw [ha];rfl
  unfold qh_ at h⊢
  simp only [hl,List.map_nil,List.length_nil,List.drop_zero] at h⊢
  split at h
  ·cases h
  ·obtain ⟨q,hq,h⟩:=bind_some h
   obtain ⟨h1,h2⟩:=hS q
   simp only [h1,List.map_nil,List.append_nil,jV_,Option.some.injEq,Prod.mk.injEq] at h
   refine ⟨h.2.symm,fun objs'=> ?_⟩
   rename_i hd
   simp only [hd,hq,Option.bind_some,h1,List.map_nil,List.append_nil,jV_,Option.some.injEq,Prod.mk.injEq,and_true]
   rw [←h.1]
   exact At_ h2
theorem jQ_ (ty ty':TypeId) (x:Operand):bs_ (dN_ T env ty x)=bs_ (dN_ T env ty' x):=by
  have key:∀v:Value,bs_ (dN_ T env ty (.const v))=[]:=fun v=>by
    unfold dN_;dsimp only
    split
    ·split
     ·split<;>rfl
     ·rfl
    ·rfl
    ·rfl
    ·rfl
  have key':∀v:Value,bs_ (dN_ T env ty' (.const v))=[]:=fun v=>by
    unfold dN_;dsimp only
    split
    ·split
     ·split<;>rfl
     ·rfl
    ·rfl
    ·rfl
    ·rfl
  cases x with
  | const v=>rw [key,key']
  | _=>rfl
theorem qt_ (f g:Nat→TypeId):∀(ps:List (Nat×Operand)),((d6_ T env f ps).flatMap fun p=>bs_ p.2)=(d6_ T env g ps).flatMap fun p=>bs_ p.2
  | []=>rfl
  | (i,x)::ps=>by simp only [d6_,List.flatMap_cons,qt_ f g ps,jQ_ (f i) (g i) x]
end
end Km
namespace Km
open Go
set_option linter.unusedVariables false
set_option linter.unusedSimpArgs false
variable {κ:Type} {Ty:κ→Type} {R α:Type}
section
variable {C:Cod κ Ty} {T:TypeId→Option (TI κ Ty)} {Γ:FuncId→Option (aK_ κ Ty)} {objs objs':am_ κ Ty} {env env':Env κ Ty}
def w7_ (C:Cod κ Ty) (T:TypeId→Option (TI κ Ty)) (Γ:FuncId→Option (aK_ κ Ty)) (o:Oper) (env:Env κ Ty) (objs:am_ κ Ty) (v:AV κ Ty) (o1:am_ κ Ty):Prop:=
  Keeps (aG_ C T Γ o env objs).writes objs o1∧
  ((aG_ C T Γ o env objs).loud=false→o1=objs∧∀objs':am_ κ Ty,Like (aG_ C T Γ o env objs).reads objs objs'→le_ C T Γ o env objs'=some (v,objs')∧aG_ C T Γ o env objs'=aG_ C T Γ o env objs)
theorem dl_ {o:Oper} {v:AV κ Ty} {o1:am_ κ Ty} {l:List Nat} (hf:∀objs,aG_ C T Γ o env objs=⟨false,l,[]⟩)
    (hk:∀(objs:am_ κ Ty) (K:AV κ Ty→am_ κ Ty→Option (AV κ Ty×am_ κ Ty)),aop C T Γ o env objs K=aop C T Γ o env objs fun v _=>K v objs)
    (hl:∀objs',Like l objs objs'→aop C T Γ o env objs' (fun v _=>some v)=aop C T Γ o env objs (fun v _=>some v)) (h:le_ C T Γ o env objs=some (v,o1)):w7_ C T Γ o env objs v o1:=by
  have hn:∀objs:am_ κ Ty,le_ C T Γ o env objs=(aop C T Γ o env objs fun v _=>some v).map fun v=>(v,objs):=fun objs=>by
    rw [le_,hk,Option.map_eq_bind]
    exact zM_ o (fun v _=>some v) fun v=>some (v,objs)
  rw [hn] at h
  simp only [Option.map_eq_some_iff,Prod.mk.injEq] at h
  obtain ⟨v',h1,rfl,rfl⟩:=h
  refine ⟨.refl _,fun _=>⟨rfl,fun objs' hlk=>⟨?_,by rw [hf,hf]⟩⟩⟩
  rw [hf] at hlk
  rw [hn,hl _ hlk,h1];rfl
theorem cz_ {o:Oper} {v:AV κ Ty} {o1:am_ κ Ty} {l:List Nat} (hf:∀objs,aG_ C T Γ o env objs=⟨false,l,[]⟩)
    (hk:∀(objs:am_ κ Ty) (K:AV κ Ty→am_ κ Ty→Option (AV κ Ty×am_ κ Ty)),aop C T Γ o env objs K=aop C T Γ o env objs fun v _=>K v objs)
    (hl:∀objs',aop C T Γ o env objs' (fun v _=>some v)=aop C T Γ o env objs (fun v _=>some v)) (h:le_ C T Γ o env objs=some (v,o1)):w7_ C T Γ o env objs v o1:=dl_ hf hk (fun o' _=>hl o') h
theorem bL_ {o:Oper} {v:AV κ Ty} {o1:am_ κ Ty} (hf:(aG_ C T Γ o env objs).loud=true) (hk:Keeps (aG_ C T Γ o env objs).writes objs o1):w7_ C T Γ o env objs v o1:=
  ⟨hk,fun h=>by rw [hf] at h;cases h⟩
theorem ut_ (hQ:QuietOk Γ) {o:Oper} {v:AV κ Ty} {o1:am_ κ Ty} (h:le_ C T Γ o env objs=some (v,o1)):w7_ C T Γ o env objs v o1:=by
  obtain ⟨dst,op,type,pos,after,guard⟩:=o
  cases op with
  | move x=>exact cz_ (fun _=>rfl) (fun _ _=>rfl) (fun _=>rfl) h
  | assign x=>exact cz_ (fun _=>rfl) (fun _ _=>rfl) (fun _=>rfl) h
  | pick c a b=>exact cz_ (fun _=>rfl) (fun _ _=>rfl) (fun _=>rfl) h
  | alloc t=>
    refine bL_ rfl ?_
    simp only [le_,aop] at h
    split at h
    ·split at h
     ·split at h
      ·split at h
       ·cases h;exact (Keeps.refl _).push _
       ·cases h
      ·cases h
     ·cases h;exact (Keeps.refl _).push _
    ·cases h
  | box t x=>
    refine bL_ rfl ?_
    simp only [le_,aop] at h
    split at h
    ·cases h;exact (Keeps.refl _).push _
    ·cases h
  | build t ps=>exact cz_ (fun _=>rfl) (fun _ _=>rfl) (fun _=>rfl) h
  | buildSlice t n ps=>
    by_cases hnil:ps.toList=[]
    ·exact cz_ (l:=[]) (fun _=>by simp only [aG_,hnil]) (fun _ _=>by simp only [aop,hnil]) (fun _=>by simp only [aop,hnil]) h
    ·by_cases hk:nf_ ps.toList=true
     ·exact cz_ (l:=[]) (fun _=>by simp only [aG_,hk]) (fun _ _=>by simp only [aop,hk]) (fun _=>by simp only [aop,hk]) h
     have hk:nf_ ps.toList=false:=by simpa using hk
     have hf:∀objs:am_ κ Ty,aG_ C T Γ ⟨dst, .buildSlice t n ps,type,pos,after,guard⟩ env objs=⟨true,(d6_ T env (fun _=>0) ps.toList).flatMap fun p=>bs_ p.2,(d6_ T env (fun _=>0) ps.toList).flatMap fun p=>bs_ p.2⟩:=fun objs=>by
       simp only [aG_,hk]
     refine bL_ (by rw [hf]) ?_
     rw [hf]
     simp only [le_,aop] at h
     split at h
     ·split at h
      ·rename_i e s _
       simp only [hk] at h
       split at h
       ·obtain ⟨ys,o2,h,hk⟩:=pa_ h
        cases h
        refine Keeps.push (hk.sub fun i hi=> ?_) _
        rw [qt_ (fun _=>0) (fun _=>e)];exact hi
       ·cases h
      ·cases h
     ·cases h
  | load t a=>
    refine dl_ (l:=cG_ T env 0 a) (fun _=>rfl) (fun _ _=>rfl) (fun o' hl=> ?_) h
    simp only [aop]
    split
    ·exact ya_ hl _
    ·rfl
  | store t a x=>
    refine bL_ rfl ?_
    simp only [le_,aop] at h
    split at h
    ·obtain ⟨o2,h,hk⟩:=t4_ h
     cases h;exact hk
    ·cases h
  | nilCheck x=>
    refine dl_ (l:=cG_ T env type x) (fun _=>rfl) (fun _ _=>rfl) (fun o' hl=> ?_) h
    simp only [aop]
    rw [qw_ hl]
  | binOp op t x y z=>exact cz_ (fun _=>rfl) (fun _ _=>by simp only [aop]) (fun _=>by simp only [aop]) h
  | unOp op t x=>exact cz_ (fun _=>rfl) (fun _ _=>rfl) (fun _=>rfl) h
  | convert s d x=>
    by_cases hd:∃td e s',T d=some td∧td.shp= .slice e s'
    ·obtain ⟨td,e,s',h1,h2⟩:=hd
     have hf:∀objs:am_ κ Ty,aG_ C T Γ ⟨dst, .convert s d x,type,pos,after,guard⟩ env objs=⟨true,[],[]⟩:=fun objs=>by simp [aG_,h1,h2]
     refine bL_ (by rw [hf]) ?_
     rw [hf]
     simp only [le_,aop] at h
     split at h
     ·rename_i ti td' hti htd
      rw [h1] at htd;cases htd
      rw [h2] at h
      split at h
      ·rename_i he _;cases he
      ·rename_i he;cases he
      ·split at h
       ·split at h
        ·split at h
         ·split at h
          ·cases h;exact (Keeps.refl _).push _
          ·cases h
         ·cases h
        ·cases h
       ·cases h
      ·cases h
     ·cases h
    ·by_cases hn:∃td,T d=some td
     ·obtain ⟨td,htd⟩:=hn
      have hns:∀e s',td.shp≠ .slice e s':=fun e s' he=>hd ⟨td,e,s',htd,he⟩
      have hf:∀objs:am_ κ Ty,aG_ C T Γ ⟨dst, .convert s d x,type,pos,after,guard⟩ env objs=⟨false,cG_ T env type x,[]⟩:=fun objs=>by
        simp only [aG_,htd]
      have hk:∀{R:Type} (objs:am_ κ Ty) (K:AV κ Ty→am_ κ Ty→Option R),aop C T Γ ⟨dst, .convert s d x,type,pos,after,guard⟩ env objs K=aop C T Γ ⟨dst, .convert s d x,type,pos,after,guard⟩ env objs fun v _=>K v objs:=fun objs K=>by
        simp only [aop,htd]
        split
        ·rename_i ti td2 hti htd2
         obtain rfl:=Option.some.inj htd2
         split
         ·rfl
         ·rfl
         ·rename_i he _;exact absurd he (hns _ _)
         ·rfl
        ·rfl
      refine dl_ (l:=cG_ T env type x) hf (fun objs K=>hk objs K) (fun o' hl=> ?_) h
      have e:=pf_ (hl.sub fun i hi=>u9_ hi)
      simp only [aop,htd]
      split
      ·rename_i ti td2 hti htd2
       obtain rfl:=Option.some.inj htd2
       split
       ·rfl
       ·rw [e]
       ·rename_i he _;exact absurd he (hns _ _)
       ·rfl
      ·rfl
     ·have:T d=none:=by
        cases hT:T d with
        | none=>rfl
        | some td=>exact absurd ⟨td,hT⟩ hn
      simp only [le_,aop,this] at h
      split at h
      ·rename_i hh;cases hh
      ·cases h
  | makeSlice t n c=>
    refine bL_ rfl ?_
    simp only [le_,aop] at h
    split at h
    ·split at h
     ·split at h
      ·split at h
       ·obtain ⟨m,_,h⟩:=bind_some h
        split at h
        ·split at h
         ·split at h<;>(cases h;exact (Keeps.refl _).push _)
         ·cases h
        ·cases h
       ·cases h
      ·cases h
     ·cases h
    ·cases h
  | slice t x lo hi mx=>
    refine dl_ (l:=cG_ T env t x) (fun _=>rfl) (fun _ _=>rfl) (fun o' hl=> ?_) h
    simp only [aop]
    split
    ·split
     ·split
      ·exact wB_ hl _
      ·rfl
     ·split
      ·exact uN_ hl _
      ·rfl
     ·rfl
    ·rfl
  | makeMap t r=>
    refine bL_ rfl ?_
    simp only [le_,aop] at h
    split at h
    ·split at h
     ·split at h
      ·cases h;exact (Keeps.refl _).push _
      ·cases h
     ·cases h
    ·cases h
  | lookup t m x ok=>
    simp only [le_,aop] at h
    split at h
    ·cases h
    ·split at h
     ·rename_i ti ht
      split at h
      ·rename_i kt et k v hs
       split at h
       ·rename_i te hte
        split at h
        ·rename_i z hz
         refine dl_ (l:=cG_ T env 0 m) (fun _=>by simp only [aG_,ht,hs,hte,hz]) (fun _ _=>by simp only [aop,ht,hs,hte,hz]) (fun o' hl=> ?_) (by simpa only [le_,aop,ht,hs,hte,hz] using h)
         simp only [aop,ht,hs,hte,hz]
         exact sY_ hl _
        ·rename_i s hz
         have hf:aG_ C T Γ ⟨dst, .lookup t m x false,type,pos,after,guard⟩ env objs=⟨true,iB_ objs (cG_ T env 0 m),iB_ objs (cG_ T env 0 m)⟩:=by simp only [aG_,ht,hs,hte,hz]
         refine bL_ (by rw [hf]) ?_
         rw [hf]
         obtain ⟨y,o2,h,hk⟩:=re_ h
         cases h;exact hk
        ·cases h
       ·cases h
      ·cases h
     ·cases h
  | mapEntry t m x=>
    refine bL_ rfl ?_
    simp only [le_,aop] at h
    split at h
    ·split at h
     ·split at h
      ·obtain ⟨y,o2,h,hk⟩:=qk_ h
       cases h;exact hk
      ·cases h
     ·cases h
    ·cases h
  | entryStore t m n x=>
    refine bL_ rfl ?_
    simp only [le_,aop] at h
    split at h
    ·obtain ⟨o2,h,hk⟩:=m2_ h
     cases h;exact hk
    ·cases h
  | fieldAddr s x f=>
    refine dl_ (l:=cG_ T env 0 x) (fun _=>rfl) (fun _ _=>rfl) (fun o' hl=> ?_) h
    simp only [aop]
    rw [qw_ hl]
  | field s x f=>exact cz_ (fun _=>rfl) (fun _ _=>rfl) (fun _=>rfl) h
  | indexAddr t x i=>
    refine dl_ (l:=cG_ T env t x) (fun _=>rfl) (fun _ _=>rfl) (fun o' hl=> ?_) h
    simp only [aop]
    split
    ·exact pk_ hl _
    ·rfl
  | index t x i=>exact cz_ (fun _=>rfl) (fun _ _=>rfl) (fun _=>rfl) h
  | extract x i=>exact cz_ (fun _=>rfl) (fun _ _=>rfl) (fun _=>rfl) h
  | call c=>
    simp only [le_,aop] at h
    split at h
    ·rename_i b hb
     split at h
     ·
       have hf:∀objs:am_ κ Ty,aG_ C T Γ ⟨dst, .call c,type,pos,after,guard⟩ env objs=⟨false,(dT_ T env c.args.toList c.argTypes.toList).flatMap bs_,[]⟩:=fun objs=>by simp [aG_,hb]
       split at h
       ·rename_i x t hx ht
        refine dl_ hf (fun _ _=>by simp only [aop,hb,hx,ht]) (fun o' hl=> ?_) (by simpa only [le_,aop,hb,hx,ht] using h)
        simp only [aop,hb,hx,ht]
        split
        ·rw [yk_ (hl.sub fun i hi=>by simp only [hx,ht,dT_,List.flatMap_cons,List.mem_append];exact .inl hi)]
        ·rfl
       ·cases h
     ·
       have hf:∀objs:am_ κ Ty,aG_ C T Γ ⟨dst, .call c,type,pos,after,guard⟩ env objs=⟨true,(dT_ T env c.args.toList c.argTypes.toList).flatMap bs_,wk_ (dT_ T env c.args.toList c.argTypes.toList)⟩:=fun objs=>by simp [aG_,hb]
       refine bL_ (by rw [hf]) ?_
       rw [hf]
       split at h
       ·rename_i x y t1 t2 hx ht
        split at h
        ·split at h
         ·obtain ⟨v',o2,h,hk⟩:=sR_ h
          cases h
          exact hk.sub fun i hi=>by simpa [hx,ht,dT_,wk_] using hi
         ·cases h
        ·cases h
       ·cases h
     ·
       have hf:∀objs:am_ κ Ty,aG_ C T Γ ⟨dst, .call c,type,pos,after,guard⟩ env objs=⟨true,(dT_ T env c.args.toList c.argTypes.toList).flatMap bs_,(dT_ T env c.args.toList c.argTypes.toList).flatMap bs_⟩:=fun objs=>by simp [aG_,hb]
       refine bL_ (by rw [hf]) ?_
       rw [hf]
       split at h
       ·rename_i x y t1 t2 hx ht
        split at h
        ·split at h
         ·obtain ⟨v',o2,h,hk⟩:=wE_ h
          cases h
          exact hk.sub fun i hi=>by simpa [hx,ht,dT_] using hi
         ·cases h
        ·cases h
       ·cases h
     ·cases h
    ·rename_i f hf
     split at h
     ·rename_i S hlen hΓ
      by_cases hq:S.quiet&&wp_ ((eJ_ C objs (dT_ T env c.args.toList c.argTypes.toList) S.modes).flatMap bs_)
      ·have hft:aG_ C T Γ ⟨dst, .call c,type,pos,after,guard⟩ env objs=⟨false,(dT_ T env c.args.toList c.argTypes.toList).flatMap bs_,[]⟩:=by simp only [aG_,hf,hΓ,hq]
       simp only [Bool.and_eq_true] at hq
       obtain ⟨n1,n2⟩:=qA_ (isNil_iff.mp hq.2)
       simp only [n1,n2,jk_] at h
       obtain ⟨k1,k2⟩:=vC_ (hQ f S hΓ hq.1) (isNil_iff.mp hq.2) h
       subst k1
       refine ⟨.refl _,fun _=>⟨rfl,fun objs' hl=> ?_⟩⟩
       rw [hft] at hl
       have hp:=mX_ (C:=C) S.modes hl
       refine ⟨?_, ?_⟩
       ·simp only [le_,aop,hf,hlen,hΓ,n1,n2,jk_,hp];exact k2 objs'
       ·rw [hft];simp only [aG_,hf,hΓ,hp,hq,Bool.and_true]
      ·have hq':(S.quiet&&wp_ ((eJ_ C objs (dT_ T env c.args.toList c.argTypes.toList) S.modes).flatMap bs_))=false:=by simpa using hq
       refine bL_ (by simp only [aG_,hf,hΓ,hq']) ?_
       have hx:=ez_ (C:=C) (dT_ T env c.args.toList c.argTypes.toList) S.modes objs
       obtain ⟨v',o2,h,hk⟩:=vw_ h
       obtain ⟨o3,h,g1,g2⟩:=nQ_ h
       cases h
       simp only [aG_,hf,hΓ,hq']
       refine ⟨Nat.le_trans hx.1 (Nat.le_trans hk.1 g1),fun id hid hlt=> ?_⟩
       simp only [List.mem_append,not_or] at hid
       rw [g2 id hid.1 hlt,hk.2 id hid.2 (by have:=hx.1;omega),hx.2 id hid.1 hlt]
     ·cases h
    ·cases h
  | _=>simp [le_,aop] at h
end
end Km
namespace Km
open Go
set_option linter.unusedVariables false
set_option linter.unusedSimpArgs false
variable {κ:Type} {Ty:κ→Type} {R α:Type}
section
variable {P:Program} {C:Cod κ Ty} {T:TypeId→Option (TI κ Ty)} {Γ:FuncId→Option (aK_ κ Ty)} {objs objs':am_ κ Ty} {env env':Env κ Ty}
variable {Mut:Nat→Prop} {Lent:Org κ Ty} {w0 w w':World} {ρ ρ' ρ2:Nat→Loc} {a:Act} {tm:Array Value} {all:Array Oper}
def sS_ (C:Cod κ Ty) (T:TypeId→Option (TI κ Ty)) (Γ:FuncId→Option (aK_ κ Ty)) (all:Array Oper) (o:Oper) (env:Env κ Ty) (objs:am_ κ Ty) (v:AV κ Ty) (o1:am_ κ Ty):Prop:=
  match o.guard with
  | none=>le_ C T Γ o env objs=some (v,o1)
  | some (j,want)=>match (all[j]?).bind (·.dst) with
    | none=>False
    | some d=>(∃b,look env d= .lit (.bool b)∧((eqB b want=true∧le_ C T Γ o env objs=some (v,o1))∨(eqB b want=false∧v= .void∧o1=objs)))∨(look env d= .void∧v= .void∧o1=objs)
theorem hs_ {d:Nat} {x:AV κ Ty} (h:look env d=x) (t:Nat):look ((d,x)::env) t=look env t:=by
  rw [eO_];split
  ·rename_i e;rw [e,h]
  ·rfl
theorem l7_ {o:Oper} {v:AV κ Ty} (h:∀t,look env' t=look env t) (t:Nat):look (put o env' v) t=look (put o env v) t:=by
  unfold put
  cases o.dst with
  | none=>exact h t
  | some d=>simp only [eO_,h]
theorem sQ_ {xs:List Operand} (h:∀t,look env' t=look env t):yp_ xs env env':=fun t _=>h t
theorem uA_ {o:Oper} (h:∀t,look env' t=look env t):le_ C T Γ o env' objs=le_ C T Γ o env objs:=(pX_ (sQ_ h) _).1
theorem yB_ {o:Oper} {K:Env κ Ty→am_ κ Ty→Option R} {r:R} (h:jT_ C T Γ all o env objs K=some r):
    ∃v o1 env1,sS_ C T Γ all o env objs v o1∧K env1 o1=some r∧∀t,look env1 t=look (put o env v) t:=by
  unfold jT_ at h
  unfold sS_
  split at h
  ·rename_i hg
   obtain ⟨v,o1,h1,h2⟩:=z6_ h
   exact ⟨v,o1,_,by rw [hg];exact h1,h2,fun t=>rfl⟩
  ·rename_i j want hg
   split at h
   ·cases h
   ·rename_i d hd
    split at h
    ·rename_i b hb
     have h:=lK_ h
     split at h
     ·rename_i he
      obtain ⟨v,o1,h1,h2⟩:=z6_ h
      rw [uA_ (hs_ hb)] at h1
      refine ⟨v,o1,_, ?_,h2,l7_ (hs_ hb)⟩
      rw [hg];dsimp only;rw [hd]
      exact .inl ⟨b,hb, .inl ⟨he,h1⟩⟩
     ·rename_i he
      refine ⟨_,_,_, ?_,h,l7_ (hs_ hb)⟩
      rw [hg];dsimp only;rw [hd]
      exact .inl ⟨b,hb, .inr ⟨he,rfl,rfl⟩⟩
    ·rename_i hb
     refine ⟨_,_,_, ?_,h,fun t=>rfl⟩
     rw [hg];dsimp only;rw [hd]
     exact .inr ⟨hb,rfl,rfl⟩
    ·cases h
theorem yr_ {o:Oper} {v:AV κ Ty} {o1:am_ κ Ty} (h:sS_ C T Γ all o env objs v o1):
    ∃env1,(∀t,look env1 t=look (put o env v) t)∧(jT_ C T Γ all o env objs fun e o=>some (e,o))=some (env1,o1):=by
  unfold sS_ at h
  unfold jT_
  split at h
  ·rename_i hg
   rw [hg]
   refine ⟨_,fun t=>rfl, ?_⟩
   dsimp only
   rw [tg_,h];rfl
  ·rename_i j want hg
   split at h
   ·exact h.elim
   ·rename_i d hd
    rw [hg];dsimp only;rw [hd];dsimp only
    rcases h with ⟨b,hb,⟨he,h⟩ | ⟨he,rfl,rfl⟩⟩ | ⟨hb,rfl,rfl⟩
    ·refine ⟨put o ((d, .lit (.bool b))::env) v,l7_ (hs_ hb), ?_⟩
     rw [hb];dsimp only
     have:∀K:Bool→Option (Env κ Ty×am_ κ Ty),ifB b K=K b:=fun K=>by cases b<;>rfl
     rw [this,he];dsimp only
     rw [tg_,uA_ (hs_ hb),h];rfl
    ·refine ⟨put o ((d, .lit (.bool b))::env) .void,l7_ (hs_ hb), ?_⟩
     rw [hb];dsimp only
     have:∀K:Bool→Option (Env κ Ty×am_ κ Ty),ifB b K=K b:=fun K=>by cases b<;>rfl
     rw [this,he]
    ·refine ⟨put o env .void,fun t=>rfl, ?_⟩
     rw [hb]
def AgreeO (all:Array Oper) (o:Oper) (env env':Env κ Ty):Prop:=∀t∈o.looksAt all,look env' t=look env t
theorem AgreeO.ops {o:Oper} (h:AgreeO all o env env'):yp_ o.op.operands.toList env env':=fun t ht=>h t (by
  simp only [Oper.looksAt,List.mem_append]
  exact .inl (List.mem_filterMap.mpr ⟨_,ht,rfl⟩))
theorem jR_ {o:Oper} {v:AV κ Ty} {o1:am_ κ Ty} (h:AgreeO all o env env') (hd:sS_ C T Γ all o env objs v o1):sS_ C T Γ all o env' objs v o1:=by
  have ha:le_ C T Γ o env' objs=le_ C T Γ o env objs:=(pX_ h.ops _).1
  unfold sS_ at hd⊢
  split at hd
  ·rw [ha];exact hd
  ·rename_i j want hg
   split at hd
   ·exact hd.elim
   ·rename_i d hdst
    have hl:look env' d=look env d:=h d (by simp only [Oper.looksAt,hg,hdst,List.mem_append];exact .inr (by simp))
    rw [hl,ha];exact hd
theorem mR_ (C:Cod κ Ty) {o:Oper} (h:AgreeO all o env env'):cF_ C T Γ all o env' objs=cF_ C T Γ all o env objs:=by
  have ha:aG_ C T Γ o env' objs=aG_ C T Γ o env objs:=(pX_ (C:=C) (R:=Unit) h.ops fun _ _=>none).2
  unfold cF_
  split
  ·exact ha
  ·rename_i j want hg
   split
   ·rfl
   ·rename_i d hdst
    have hl:look env' d=look env d:=h d (by simp only [Oper.looksAt,hg,hdst,List.mem_append];exact .inr (by simp))
    rw [hl,ha]
theorem m5_ (hQ:QuietOk Γ) {o:Oper} {v:AV κ Ty} {o1:am_ κ Ty} (h:sS_ C T Γ all o env objs v o1):
    Keeps (cF_ C T Γ all o env objs).writes objs o1∧
    ((cF_ C T Γ all o env objs).loud=false→o1=objs∧∀objs':am_ κ Ty,Like (cF_ C T Γ all o env objs).reads objs objs'→sS_ C T Γ all o env objs' v objs'∧cF_ C T Γ all o env objs'=cF_ C T Γ all o env objs):=by
  unfold sS_ at h
  split at h
  ·rename_i hg
   have:=ut_ hQ h
   have e:∀objs:am_ κ Ty,cF_ C T Γ all o env objs=aG_ C T Γ o env objs:=fun objs=>by simp only [cF_,hg]
   simp only [e,sS_,hg]
   exact this
  ·rename_i j want hg
   split at h
   ·exact h.elim
   ·rename_i d hdst
    rcases h with ⟨b,hb,⟨he,h⟩ | ⟨he,rfl,rfl⟩⟩ | ⟨hb,rfl,rfl⟩
    ·have:=ut_ hQ h
     have e:∀objs:am_ κ Ty,cF_ C T Γ all o env objs=aG_ C T Γ o env objs:=fun objs=>by simp only [cF_,hg,hdst,hb,he]
     simp only [e,sS_,hg,hdst,hb]
     refine ⟨this.1,fun hq=>⟨(this.2 hq).1,fun objs' hl=>⟨.inl ⟨b,rfl, .inl ⟨he,((this.2 hq).2 objs' hl).1⟩⟩,((this.2 hq).2 objs' hl).2⟩⟩⟩
    ·have e:∀objs:am_ κ Ty,cF_ C T Γ all o env objs=⟨false,[],[]⟩:=fun objs=>by simp only [cF_,hg,hdst,hb,he]
     simp only [e,sS_,hg,hdst,hb]
     exact ⟨.refl _,fun _=>⟨trivial,fun objs' _=>⟨.inl ⟨b,rfl, .inr ⟨he,trivial,trivial⟩⟩,trivial⟩⟩⟩
    ·have e:∀objs:am_ κ Ty,cF_ C T Γ all o env objs=⟨false,[],[]⟩:=fun objs=>by simp only [cF_,hg,hdst,hb]
     simp only [e,sS_,hg,hdst,hb]
     exact ⟨.refl _,fun _=>⟨trivial,fun objs' _=>⟨.inr ⟨trivial,trivial,trivial⟩,trivial⟩⟩⟩
inductive Tr (C:Cod κ Ty) (T:TypeId→Option (TI κ Ty)) (Γ:FuncId→Option (aK_ κ Ty)) (all:Array Oper):List (Nat×Oper)→Env κ Ty→am_ κ Ty→List (Nat×Oper×lo_)→Env κ Ty→am_ κ Ty→Prop
  | nil {env:Env κ Ty} {objs:am_ κ Ty}:Tr C T Γ all [] env objs [] env objs
  | cons {i:Nat} {o:Oper} {L:List (Nat×Oper)} {env:Env κ Ty} {objs:am_ κ Ty} {v:AV κ Ty} {o1:am_ κ Ty} {l:List (Nat×Oper×lo_)} {e2:Env κ Ty} {o2:am_ κ Ty}
      (hd:sS_ C T Γ all o env objs v o1) (hr:∀id∈(cF_ C T Γ all o env objs).reads,id<objs.length) (ht:Tr C T Γ all L (put o env v) o1 l e2 o2):
      Tr C T Γ all ((i,o)::L) env objs ((i,o,cF_ C T Γ all o env objs)::l) e2 o2
theorem Tr.look {L:List (Nat×Oper)} {l:List (Nat×Oper×lo_)} {e2:Env κ Ty} {o2:am_ κ Ty} (h:Tr C T Γ all L env objs l e2 o2):∀{env':Env κ Ty},(∀t,Km.look env' t=Km.look env t)→
    ∃e2',Tr C T Γ all L env' objs l e2' o2∧∀t,Km.look e2' t=Km.look e2 t:=by
  induction h with
  | nil=>intro env' he;exact ⟨_, .nil,he⟩
  | @cons i o L env objs v o1 l e2 o2 hd hr ht ih=>
    intro env' he
    obtain ⟨e2',h1,h2⟩:=ih (l7_ he)
    have ha:AgreeO all o env env':=fun t _=>he t
    have hf:=mR_ (T:=T) (Γ:=Γ) (objs:=objs) C ha
    refine ⟨e2', ?_,h2⟩
    rw [←hf]
    exact .cons (jR_ ha hd) (by rw [hf];exact hr) h1
theorem sr_ {x y:lo_} (h:mC_ x y=true):(x.loud=false∨y.loud=false)∧(∀i∈x.reads,i∉y.writes)∧(∀i∈y.reads,i∉x.writes):=by
  unfold mC_ at h
  split at h
  ·cases h
  ·rename_i hl
   simp only [Bool.and_eq_true] at h
   refine ⟨?_,(lR_ _ _).mp h.1,(lR_ _ _).mp h.2⟩
   cases hx:x.loud<;>cases hy:y.loud<;>simp_all
theorem pw_ {o p:Oper} {v:AV κ Ty} (h:∀d,p.dst=some d→d∉o.looksAt all):AgreeO all o env (put p env v):=fun t ht=>by
  unfold put
  cases hd:p.dst with
  | none=>rfl
  | some d=>
    simp only [eO_]
    rw [if_neg (fun (e:t=d)=>h d hd (by rw [←e];exact ht))]
theorem AgreeO.symm {o:Oper} (h:AgreeO all o env env'):AgreeO all o env' env:=fun t ht=>(h t ht).symm
theorem y0_ {o p:Oper} {v u:AV κ Ty} (h:∀d,p.dst=some d→o.dst≠some d) (t:Nat):look (put p (put o env v) u) t=look (put o (put p env u) v) t:=by
  unfold put
  cases hp:p.dst with
  | none=>cases ho:o.dst<;>rfl
  | some d=>
    cases ho:o.dst with
    | none=>rfl
    | some e=>
      have hne:e≠d:=fun x=>h d hp (by rw [ho,x])
      simp only [eO_]
      by_cases h1:t=d
      ·subst h1;simp [Ne.symm hne]
      ·simp [h1]
theorem pB_ {x y:Oper} (h:nB_ all x y=true):(∀d,x.dst=some d→d∉y.looksAt all)∧(∀d,x.dst=some d→y.dst≠some d)∧(∀d,y.dst=some d→d∉x.looksAt all):=by
  have en:∀{i:Nat} {l:List Nat},gB_ i l=false→i∉l:=fun h hm=>by rw [(eb_ _ _).mpr hm] at h;cases h
  unfold nB_ at h
  split at h
  ·rename_i d hd
   split at h
   ·cases h
   ·rename_i h1
    split at h
    ·rename_i e he
     split at h
     ·cases h
     ·rename_i h2
      refine ⟨fun d' h'=> ?_,fun d' h' h''=> ?_,fun e' h'=> ?_⟩
      ·rw [hd] at h';cases h';exact en h1
      ·rw [hd] at h';cases h'
       rw [he] at h'';cases h''
       rw [Nat.beq_refl] at h2;cases h2
      ·rw [he] at h';cases h'
       exact en (by simpa using h)
    ·rename_i he
     refine ⟨fun d' h'=> ?_,fun d' h' h''=> ?_,fun e' h'=> ?_⟩
     ·rw [hd] at h';cases h';exact en h1
     ·rw [he] at h'';cases h''
     ·rw [he] at h';cases h'
  ·rename_i hd
   split at h
   ·rename_i e he
    refine ⟨fun d' h'=> ?_,fun d' h' h''=> ?_,fun e' h'=> ?_⟩
    ·rw [hd] at h';cases h'
    ·rw [hd] at h';cases h'
    ·rw [he] at h';cases h'
     exact en (by simpa using h)
   ·rename_i he
    refine ⟨fun d' h'=> ?_,fun d' h' h''=> ?_,fun e' h'=> ?_⟩
    ·rw [hd] at h';cases h'
    ·rw [hd] at h';cases h'
    ·rw [he] at h';cases h'
theorem Tr.front (hQ:QuietOk Γ) {i:Nat} {oi:Oper} {f:lo_} {L2:List (Nat×Oper)} {l2:List (Nat×Oper×lo_)} {e2:Env κ Ty} {o2:am_ κ Ty}:∀{L1:List (Nat×Oper)} {l1:List (Nat×Oper×lo_)} {env:Env κ Ty} {objs:am_ κ Ty},
    L1.length=l1.length→Tr C T Γ all (L1++(i,oi)::L2) env objs (l1++(i,oi,f)::l2) e2 o2→(∀x∈l1,nB_ all x.2.1 oi=true∧mC_ x.2.2 f=true)→(∀id∈f.reads,id<objs.length)→
    ∃v o1 e2',sS_ C T Γ all oi env objs v o1∧cF_ C T Γ all oi env objs=f∧Tr C T Γ all (L1++L2) (put oi env v) o1 (l1++l2) e2' o2∧∀t,Km.look e2' t=Km.look e2 t
  | [],[],env,objs,_,h,_,_=>by
    cases h with
    | cons hd hr ht=>exact ⟨_,_,_,hd,rfl,ht,fun _=>rfl⟩
  | [],_::_,_,_,hl,_,_,_=>by simp at hl
  | _::_,[],_,_,hl,_,_,_=>by simp at hl
  | (j,oj)::L1,x::l1,env,objs,hl,h,hc,hi=>by
    simp only [List.cons_append] at h
    cases h with
    | cons hd hr ht=>
      rename_i vj oa
      obtain ⟨c1,c2⟩:=hc _ (List.mem_cons_self ..)
      obtain ⟨p1,p2,p3⟩:=pB_ c1
      obtain ⟨q1,q2,q3⟩:=sr_ c2
      obtain ⟨k1,k2⟩:=m5_ hQ hd
      obtain ⟨v,o1,e2',g1,g2,g3,g4⟩:=Tr.front hQ (by simpa using hl) ht (fun x hx=>hc x (List.mem_cons_of_mem _ hx)) (fun id hid=>by have:=hi id hid;have:=k1.1;omega)
      dsimp only at p1 p2 p3 q1 q2 q3 k1 k2
      have ai:AgreeO all oi env (put oj env vj):=pw_ p1
      have aj:AgreeO all oj env (put oi env v):=pw_ p3
      have fi:∀o:am_ κ Ty,cF_ C T Γ all oi (put oj env vj) o=cF_ C T Γ all oi env o:=fun o=>mR_ C ai
      have fj:∀o:am_ κ Ty,cF_ C T Γ all oj (put oi env v) o=cF_ C T Γ all oj env o:=fun o=>mR_ C aj
      have key:∃ob,sS_ C T Γ all oi env objs v ob∧cF_ C T Γ all oi env objs=f∧sS_ C T Γ all oj env ob vj o1∧cF_ C T Γ all oj env ob=cF_ C T Γ all oj env objs∧objs.length≤ob.length:=by
        obtain ⟨m1,m2⟩:=m5_ hQ g1
        rw [g2] at m1 m2
        rcases hlf:f.loud with _ | _
        ·
          obtain ⟨rfl,m3⟩:=m2 hlf
          have lk:Like f.reads _ objs:=fun id hid=>(k1.2 id (q3 id hid) (hi id hid)).symm
          obtain ⟨n1,n2⟩:=m3 objs lk
          refine ⟨objs,jR_ ai.symm n1, ?_,hd,rfl,Nat.le_refl _⟩
          rw [←fi,n2]
        ·
          have hq:(cF_ C T Γ all oj env objs).loud=false:=by
            rcases q1 with h | h
            ·exact h
            ·rw [hlf] at h;cases h
          obtain ⟨rfl,k3⟩:=k2 hq
          have lk:Like (cF_ C T Γ all oj env oa).reads oa o1:=fun id hid=>m1.2 id (q2 id hid) (hr id hid)
          obtain ⟨n1,n2⟩:=k3 o1 lk
          refine ⟨o1,jR_ ai.symm g1, ?_,n1,n2,m1.1⟩
          rw [←fi,g2]
      obtain ⟨ob,r1,r2,r3,r4,r5⟩:=key
      obtain ⟨e3,s1,s2⟩:=g3.look (env':=put oj (put oi env v) vj) (fun t=>y0_ p2 t)
      refine ⟨v,ob,e3,r1,r2, ?_,fun t=>(s2 t).trans (g4 t)⟩
      simp only [List.cons_append]
      have hfj:cF_ C T Γ all oj env objs=cF_ C T Γ all oj (put oi env v) ob:=by rw [fj,r4]
      rw [hfj]
      refine .cons (jR_ aj r3) ?_ s1
      rw [←hfj]
      exact fun id hid=>Nat.lt_of_lt_of_le (hr id hid) r5
end
end Km
namespace Km
open Go
set_option linter.unusedVariables false
set_option linter.unusedSimpArgs false
variable {κ:Type} {Ty:κ→Type} {R α:Type}
theorem nZ_ (f:List (List Nat)→Oper→List Nat):∀(os:List Oper) (acc:List (List Nat)),∃m,os.foldl (fun acc o=>acc++[f acc o]) acc=acc++m
  | [],acc=>⟨[],by simp⟩
  | o::os,acc=>by
    obtain ⟨m,h⟩:=nZ_ f os (acc++[f acc o])
    exact ⟨f acc o::m,by simp [h]⟩
theorem pz_ {i:Nat}:∀{l:List Nat},i∈tk_ l↔i∈l
  | []=>Iff.rfl
  | j::l=>by
    simp only [tk_]
    split
    ·rename_i h
     have hj:=(eb_ _ _).mp h
     rw [pz_,List.mem_cons]
     exact ⟨.inr,fun h=>h.elim (fun e=>e▸hj) id⟩
    ·simp only [List.mem_cons,pz_]
theorem u5_:∀(os:List Oper) (acc:List (List Nat)) (i e:Nat),acc.length≤i→e∈(os.foldl (fun acc o=>acc++[tk_ ((dg_ o).flatMap fun d=>d::acc.getD d [])]) acc).getD i []→
    ∃o,os[i-acc.length]? =some o∧∃d∈dg_ o,e=d∨e∈(os.foldl (fun acc o=>acc++[tk_ ((dg_ o).flatMap fun d=>d::acc.getD d [])]) acc).getD d []
  | [],acc,i,e,hi,h=>by
    simp only [List.foldl_nil] at h
    simp [List.getElem?_eq_none hi] at h
  | o::os,acc,i,e,hi,h=>by
    simp only [List.foldl_cons] at h⊢
    obtain ⟨m,hm⟩:=nZ_ (fun acc o=>tk_ ((dg_ o).flatMap fun d=>d::acc.getD d [])) os (acc++[tk_ ((dg_ o).flatMap fun d=>d::acc.getD d [])])
    by_cases he:i=acc.length
    ·subst he
     refine ⟨o,by simp, ?_⟩
     rw [hm] at h
     simp only [List.append_assoc,List.getD_eq_getElem?_getD] at h
     rw [List.getElem?_append_right (Nat.le_refl _)] at h
     simp only [Nat.sub_self,List.cons_append,List.nil_append,List.getElem?_cons_zero,Option.getD_some,pz_,List.mem_flatMap,List.mem_cons] at h
     obtain ⟨d,hd,h⟩:=h
     refine ⟨d,hd,h.imp id fun h=> ?_⟩
     rw [hm]
     by_cases hlt:d<acc.length
     ·simp only [List.append_assoc,List.getD_eq_getElem?_getD]
      rw [List.getElem?_append_left hlt];exact h
     ·rw [List.getElem?_eq_none (by omega)] at h;simp at h
    ·obtain ⟨o',h1,h2⟩:=u5_ os _ i e (by simp;omega) h
     refine ⟨o', ?_,h2⟩
     simp only [List.length_append,List.length_cons,List.length_nil] at h1
     rw [show i-acc.length=(i-(acc.length+(0+1)))+1 by omega];simpa using h1
theorem oX_ {os:List Oper} {i e:Nat} (h:e∈(tF_ os).getD i []):∃o,os[i]? =some o∧∃d∈dg_ o,e=d∨e∈(tF_ os).getD d []:=by
  have:=u5_ os [] i e (Nat.zero_le _) h
  exact this
theorem qL_ {n:Nat}:∀{l:List Nat},s1_ l n=true→∀i∈l,i<n
  | [],_,i,hi=>by simp at hi
  | j::l,h,i,hi=>by
    simp only [s1_] at h
    split at h
    ·rename_i hb
     simp only [List.mem_cons] at hi
     rcases hi with rfl | hi
     ·exact Nat.blt_eq.mp hb
     ·exact qL_ h i hi
    ·cases h
section
variable {P:Program} {C:Cod κ Ty} {T:TypeId→Option (TI κ Ty)} {Γ:FuncId→Option (aK_ κ Ty)} {objs objs':am_ κ Ty} {env env':Env κ Ty}
variable {Mut:Nat→Prop} {Lent:Org κ Ty} {w0 w w':World} {ρ ρ' ρ2:Nat→Loc} {a:Act} {tm:Array Value} {all:Array Oper}
theorem xw_:∀{l:List (Nat×Nat)} {j i:Nat},Bu_ l j i=true→(j,i)∈l
  | [],_,_,h=>by cases h
  | (a,b)::l,j,i,h=>by
    simp only [Bu_] at h
    split at h
    ·rename_i e
     simp only [Bool.and_eq_true] at e
     rw [Nat.eq_of_beq_eq_true e.1,Nat.eq_of_beq_eq_true e.2];exact List.mem_cons_self ..
    ·exact List.mem_cons_of_mem _ (xw_ h)
def Chk (ex:List (Nat×Nat)) (all:Array Oper) (anc:List (List Nat)) (x y:Nat×Oper×lo_):Prop:=Bu_ ex x.1 y.1=true∨x.1∈anc.getD y.1 []∨(nB_ all x.2.1 y.2.1=true∧mC_ x.2.2 y.2.2=true)
def Cu_ (ex:List (Nat×Nat)) (anc:List (List Nat)) (x y:Nat×Oper×lo_):Prop:=Bu_ ex x.1 y.1=true∨x.1∈anc.getD y.1 []∨mC_ x.2.2 y.2.2=true
theorem kK_ {ex:List (Nat×Nat)} {anc:List (List Nat)} {i:Nat} {o:Oper} {f:lo_}:∀{log:List (Nat×Oper×lo_)},pU_ ex i (anc.getD i []) f log=true→∀x∈log,Cu_ ex anc x (i,o,f)
  | [],_,x,hx=>by simp at hx
  | (j,p,g)::l,h,x,hx=>by
    simp only [pU_] at h
    split at h
    ·rename_i hc
     simp only [List.mem_cons] at hx
     rcases hx with rfl | hx
     ·simp only [Bool.or_eq_true] at hc
      rcases hc with hc | hc | hc
      ·exact .inl hc
      ·exact .inr (.inl ((eb_ _ _).mp hc))
      ·exact .inr (.inr hc)
     ·exact kK_ h x hx
    ·cases h
theorem w8_ {f:lo_} (h:Bz_ f=true):f.loud=false∧f.writes=[]:=by
  unfold Bz_ at h
  split at h
  ·cases h
  ·rename_i hl;exact ⟨hl,isNil_iff.mp h⟩
theorem Bf_ (l:List Nat):disj l []=true:=(lR_ _ _).mpr fun i _ h=>by simp at h
theorem CP_ {f g:lo_} (hf:Bz_ f=true) (hg:Bz_ g=true):mC_ f g=true:=by
  obtain ⟨f1,f2⟩:=w8_ hf
  obtain ⟨g1,g2⟩:=w8_ hg
  unfold mC_
  rw [f1,f2,g2]
  simp [Bf_]
def z4_ (ex:List (Nat×Nat)) (all:Array Oper) (anc:List (List Nat)) (x y:Nat×Oper):Prop:=Bu_ ex x.1 y.1=true∨x.1∈anc.getD y.1 []∨nB_ all x.2 y.2=true
theorem pc_ {ex:List (Nat×Nat)} {anc:List (List Nat)} {i:Nat} {o:Oper}:∀{l:List (Nat×Oper)},xh_ ex all anc i o l=true→∀x∈l,z4_ ex all anc (i,o) x
  | [],_,x,hx=>by simp at hx
  | (j,p)::l,h,x,hx=>by
    simp only [xh_] at h
    split at h
    ·rename_i hc
     simp only [List.mem_cons] at hx
     rcases hx with rfl | hx
     ·simp only [Bool.or_eq_true] at hc
      rcases hc with hc | hc | hc
      ·exact .inl hc
      ·exact .inr (.inl ((eb_ _ _).mp hc))
      ·exact .inr (.inr hc)
     ·exact pc_ h x hx
    ·cases h
theorem qQ_ {ex:List (Nat×Nat)} {anc:List (List Nat)}:∀{l:List (Nat×Oper)},u4_ ex all anc l=true→l.Pairwise (z4_ ex all anc)∧∀x∈l,∀d∈dg_ x.2,d<x.1
  | [],_=>⟨.nil,fun x hx=>by simp at hx⟩
  | (i,o)::l,h=>by
    simp only [u4_] at h
    split at h
    ·rename_i hc
     simp only [Bool.and_eq_true] at hc
     obtain ⟨h1,h2⟩:=qQ_ h
     refine ⟨.cons (pc_ hc.2) h1,fun x hx d hd=> ?_⟩
     simp only [List.mem_cons] at hx
     rcases hx with rfl | hx
     ·exact qL_ hc.1 d hd
     ·exact h2 x hx d hd
    ·cases h
theorem xp_ {ex:List (Nat×Nat)} {anc:List (List Nat)}:∀{l:List (Nat×Oper×lo_)},l.Pairwise (Cu_ ex anc)→(l.map fun x=>(x.1,x.2.1)).Pairwise (z4_ ex all anc)→l.Pairwise (Chk ex all anc)
  | [],_,_=> .nil
  | x::l,h,g=>by
    obtain ⟨h1,h2⟩:=List.pairwise_cons.mp h
    simp only [List.map_cons] at g
    obtain ⟨g1,g2⟩:=List.pairwise_cons.mp g
    refine .cons (fun y hy=> ?_) (xp_ h2 g2)
    have a:=h1 y hy
    have b:=g1 _ (List.mem_map_of_mem hy)
    rcases a with a | a | a
    ·exact .inl a
    ·exact .inr (.inl a)
    ·rcases b with b | b | b
     ·exact .inl b
     ·exact .inr (.inl b)
     ·exact .inr (.inr ⟨b,a⟩)
theorem num_mem:∀{os:List Oper} {n i:Nat} {o:Oper},(i,o)∈num n os↔n≤i∧os[i-n]? =some o
  | [],n,i,o=>by simp [num]
  | p::os,n,i,o=>by
    simp only [num,List.mem_cons,Prod.mk.injEq]
    rw [num_mem]
    constructor
    ·rintro (⟨rfl,rfl⟩ | ⟨h1,h2⟩)
     ·simp
     ·refine ⟨by omega, ?_⟩
      rw [show i-n=(i-(n+1))+1 by omega];simpa using h2
    ·rintro ⟨h1,h2⟩
     by_cases e:i=n
     ·subst e;simp at h2;exact .inl ⟨rfl,h2.symm⟩
     ·refine .inr ⟨by omega, ?_⟩
      rw [show i-n=(i-(n+1))+1 by omega] at h2;simpa using h2
theorem sn_:∀(os:List Oper) (n:Nat),(num n os).Pairwise fun x y=>x.1<y.1
  | [],_=> .nil
  | o::os,n=> .cons (fun x hx=>by
    obtain ⟨i,o'⟩:=x
    have:=(num_mem.mp hx).1
    exact this) (sn_ os (n+1))
theorem mK_:∀(os:List Oper) (n:Nat),(num n os).length=os.length
  | [],n=>rfl
  | o::os,n=>by simp [num,mK_ os]
theorem zS_ {o:Oper} {K:Env κ Ty→Option R} {r:R} (h:Fy_ all o env K=some r):∃env1,K env1=some r∧∀t,look env1 t=look env t:=by
  unfold Fy_ at h
  split at h
  ·exact ⟨env,h,fun _=>rfl⟩
  ·split at h
   ·exact ⟨env,h,fun _=>rfl⟩
   ·rename_i d hd
    split at h
    ·rename_i b hb
     refine ⟨_,lK_ h,fun t=> ?_⟩
     rw [eO_]
     split
     ·rename_i e;rw [e,hb]
     ·rfl
    ·exact ⟨env,h,fun _=>rfl⟩
theorem wS_ {ex:List (Nat×Nat)} {anc:List (List Nat)} {K:Env κ Ty→am_ κ Ty→Option R} {r:R}:∀{os:List (Nat×Oper)} {log logN:List (Nat×Oper×lo_)} {env:Env κ Ty} {objs:am_ κ Ty},(∀x∈log,x∈logN∨Bz_ x.2.2=true)→sZ_ C T ex Γ all anc os log logN env objs K=some r→
    ∃l e2 o2 e3,Tr C T Γ all os env objs l e2 o2∧K e3 o2=some r∧(∀t,look e3 t=look e2 t)∧l.Pairwise (Cu_ ex anc)∧(∀x∈log,∀y∈l,Cu_ ex anc x y)
  | [],log,logN,env,objs,_,h=>⟨[],env,objs,env, .nil,h,fun _=>rfl, .nil,fun x _ y hy=>by simp at hy⟩
  | (i,o)::os,log,logN,env,objs,hN,h=>by
    simp only [sZ_] at h
    obtain ⟨env0,h,g0⟩:=zS_ h
    have fin:∀(logN':List (Nat×Oper×lo_)),(∀x∈((i,o,cF_ C T Γ all o env0 objs)::log),x∈logN'∨Bz_ x.2.2=true)→s1_ (cF_ C T Γ all o env0 objs).reads objs.length=true→(∀x∈log,Cu_ ex anc x (i,o,cF_ C T Γ all o env0 objs))→
     (jT_ C T Γ all o env0 objs fun env' objs'=>sZ_ C T ex Γ all anc os ((i,o,cF_ C T Γ all o env0 objs)::log) logN' env' objs' K)=some r→
     ∃l e2 o2 e3,Tr C T Γ all ((i,o)::os) env objs l e2 o2∧K e3 o2=some r∧(∀t,look e3 t=look e2 t)∧l.Pairwise (Cu_ ex anc)∧(∀x∈log,∀y∈l,Cu_ ex anc x y):=by
      intro logN' hN' c2 c3 h
      obtain ⟨v,o1,env1,d1,d2,d3⟩:=yB_ h
      obtain ⟨l,e2,o2,e3,t1,t2,t3,t4,t5⟩:=wS_ hN' d2
      obtain ⟨e2',s1,s2⟩:=t1.look (env':=put o env0 v) (fun t=>(d3 t).symm)
      have tr0:Tr C T Γ all ((i,o)::os) env0 objs _ e2' o2:= .cons d1 (qL_ c2) s1
      obtain ⟨e2'',u1,u2⟩:=tr0.look (env':=env) (fun t=>(g0 t).symm)
      refine ⟨_,e2'',o2,e3,u1,t2,fun t=>(t3 t).trans ((s2 t).symm.trans (u2 t).symm), .cons (fun y hy=>t5 _ (List.mem_cons_self ..) y hy) t4,fun x hx y hy=> ?_⟩
      simp only [List.mem_cons] at hy
      rcases hy with rfl | hy
      ·exact c3 x hx
      ·exact t5 x (List.mem_cons_of_mem _ hx) y hy
    replace h:(match Bz_ (cF_ C T Γ all o env0 objs) with
      | true=>(match s1_ (cF_ C T Γ all o env0 objs).reads objs.length&&pU_ ex i (anc.getD i []) (cF_ C T Γ all o env0 objs) logN with
        | true=>jT_ C T Γ all o env0 objs fun env' objs'=>sZ_ C T ex Γ all anc os ((i,o,cF_ C T Γ all o env0 objs)::log) logN env' objs' K
        | false=>none)
      | false=>(match s1_ (cF_ C T Γ all o env0 objs).reads objs.length&&pU_ ex i (anc.getD i []) (cF_ C T Γ all o env0 objs) log with
        | true=>jT_ C T Γ all o env0 objs fun env' objs'=>sZ_ C T ex Γ all anc os ((i,o,cF_ C T Γ all o env0 objs)::log) ((i,o,cF_ C T Γ all o env0 objs)::logN) env' objs' K
        | false=>none))=some r:=h
    split at h
    ·rename_i htm
     split at h
     ·rename_i hc
      simp only [Bool.and_eq_true] at hc
      refine fin logN (fun x hx=> ?_) hc.1 (fun x hx=> ?_) h
      ·simp only [List.mem_cons] at hx
       rcases hx with rfl | hx
       ·exact .inr htm
       ·exact hN x hx
      ·rcases hN x hx with h1 | h1
       ·exact kK_ hc.2 x h1
       ·exact .inr (.inr (CP_ h1 htm))
     ·cases h
    ·rename_i htm
     split at h
     ·rename_i hc
      simp only [Bool.and_eq_true] at hc
      refine fin _ (fun x hx=> ?_) hc.1 (fun x hx=>kK_ hc.2 x hx) h
      simp only [List.mem_cons] at hx⊢
      rcases hx with rfl | hx
      ·exact .inl (.inl rfl)
      ·exact (hN x hx).imp .inr id
     ·cases h
theorem Tr.heads {L:List (Nat×Oper)} {l:List (Nat×Oper×lo_)} {e2:Env κ Ty} {o2:am_ κ Ty} (h:Tr C T Γ all L env objs l e2 o2):l.map (fun x=>(x.1,x.2.1))=L:=by
  induction h with
  | nil=>rfl
  | cons hd hr ht ih=>simp [ih]
def nG_ (T:TypeId→Option (TI κ Ty)) (o:Oper) (env:Env κ Ty):List Nat:=o.op.operands.toList.flatMap fun x=>bs_ (dN_ T env 0 x)
theorem uc_:∀{xs:List Operand} {ts:List TypeId},∀i∈(dT_ T env xs ts).flatMap bs_,i∈xs.flatMap fun x=>bs_ (dN_ T env 0 x)
  | [],ts,i,hi=>by simp [dT_] at hi
  | x::xs,[],i,hi=>by simp [dT_] at hi
  | x::xs,t::ts,i,hi=>by
    simp only [dT_,List.flatMap_cons,List.mem_append] at hi⊢
    exact hi.imp (fun h=>by rw [jQ_ 0 t];exact h) (uc_ i)
theorem sd_ {o:Oper} (h:(aG_ C T Γ o env objs).loud=false):∀i∈(aG_ C T Γ o env objs).reads,i∈nG_ T o env:=by
  intro i hi
  obtain ⟨dst,op,type,pos,after,guard⟩:=o
  simp only [nG_]
  cases op with
  | buildSlice t n ps=>
    simp only [aG_] at hi h
    split at h
    ·rename_i hnil;rw [hnil] at hi;simp at hi
    ·split at h
     ·rename_i hk;simp [hk] at hi
     ·cases h
  | load t a=>simpa [aG_,cG_,Op.operands] using hi
  | convert s d x=>
    simp only [aG_,cG_] at hi h
    rw [jQ_ _ 0] at hi
    split at hi
    ·split at hi
     ·simp at hi
     ·simpa [Op.operands] using hi
    ·simp at hi
  | nilCheck x=>
    simp only [aG_,cG_] at hi
    rw [jQ_ _ 0] at hi
    simpa [Op.operands] using hi
  | indexAddr t x y=>
    simp only [aG_,cG_] at hi
    rw [jQ_ _ 0] at hi
    simp only [Op.operands];simp;exact .inl hi
  | slice t x lo hi' mx=>
    simp only [aG_,cG_] at hi
    rw [jQ_ _ 0] at hi
    simp only [Op.operands];simp;exact .inl hi
  | fieldAddr s x f=>simpa [aG_,cG_,Op.operands] using hi
  | lookup t m x ok=>
    simp only [aG_,cG_] at hi h
    split at hi
    ·rename_i ti ht
     simp only [ht] at h
     split at hi
     ·rename_i kt et k v hs
      simp only [hs] at h
      split at hi
      ·rename_i te hte
       simp only [hte] at h
       split at hi
       ·simp only [Op.operands];simp;exact .inl hi
       ·rename_i hz
        split at h
        ·rename_i z hz';exact absurd hz' (hz z)
        ·cases h
      ·simp at hi
     ·simp at hi
    ·simp at hi
  | call c=>
    have key:∀i∈(dT_ T env c.args.toList c.argTypes.toList).flatMap bs_,i∈(Op.call c).operands.toList.flatMap fun x=>bs_ (dN_ T env 0 x):=fun i hi=>by
      have:=uc_ i hi
      simp only [List.mem_flatMap] at this⊢
      obtain ⟨x,hx,h⟩:=this
      exact ⟨x,by simp only [Op.operands,Call.operands];simp;exact .inr (by simpa using hx),h⟩
    simp only [aG_] at hi h
    split at hi
    ·split at hi
     ·exact key i hi
     ·exact key i hi
     ·simp_all
    ·split at hi
     ·split at hi
      ·split at hi
       ·exact key i hi
       ·simp_all
      ·simp at hi
     ·simp at hi
    ·simp at hi
  | _=>simp_all [aG_]
theorem vD_ {o:Oper} (h:(cF_ C T Γ all o env objs).loud=false):∀i∈(cF_ C T Γ all o env objs).reads,i∈nG_ T o env:=by
  unfold cF_ at h⊢
  split
  ·rename_i hg;rw [hg] at h;exact sd_ h
  ·rename_i j want hg
   rw [hg] at h;dsimp only at h
   split
   ·intro i hi;simp at hi
   ·rename_i d hd
    rw [hd] at h;dsimp only at h
    split
    ·rename_i b hb
     rw [hb] at h;dsimp only at h
     split
     ·rename_i he;rw [he] at h;exact sd_ h
     ·intro i hi;simp at hi
    ·intro i hi;simp at hi
    ·intro i hi;simp at hi
theorem Tr.foot_front {i:Nat} {oi:Oper} {f:lo_} {L2:List (Nat×Oper)} {l2:List (Nat×Oper×lo_)} {e2:Env κ Ty} {o2:am_ κ Ty}:∀{L1:List (Nat×Oper)} {l1:List (Nat×Oper×lo_)} {env:Env κ Ty} {objs:am_ κ Ty},
    L1.length=l1.length→Tr C T Γ all (L1++(i,oi)::L2) env objs (l1++(i,oi,f)::l2) e2 o2→(∀x∈l1,nB_ all x.2.1 oi=true)→
    (f.loud=false→∀id∈f.reads,id∈nG_ T oi env)∧∃objs1:am_ κ Ty,(∀id∈f.reads,id<objs1.length)∧((∀x∈l1,x.2.2.loud=false)→QuietOk Γ→objs1=objs)
  | [],[],env,objs,_,h,_=>by
    cases h with
    | cons hd hr ht=>exact ⟨fun hl=>vD_ hl,objs,hr,fun _ _=>rfl⟩
  | [],_::_,_,_,hl,_,_=>by simp at hl
  | _::_,[],_,_,hl,_,_=>by simp at hl
  | (j,oj)::L1,x::l1,env,objs,hl,h,hc=>by
    simp only [List.cons_append] at h
    cases h with
    | cons hd hr ht=>
      rename_i vj oa
      obtain ⟨h1,o1,h2,h3⟩:=Tr.foot_front (by simpa using hl) ht (fun x hx=>hc x (List.mem_cons_of_mem _ hx))
      obtain ⟨p1,p2,p3⟩:=pB_ (hc _ (List.mem_cons_self ..))
      refine ⟨fun hq id hid=> ?_,o1,h2,fun ha hQ=> ?_⟩
      ·have:=h1 hq id hid
       have ha:AgreeO all oi env (put oj env vj):=pw_ p1
       simp only [nG_,List.mem_flatMap] at this⊢
       obtain ⟨x,hx,h⟩:=this
       exact ⟨x,hx,by rw [jO_ ha.ops 0 hx] at h;exact h⟩
      ·have:=h3 (fun x hx=>ha x (List.mem_cons_of_mem _ hx)) hQ
       rw [this]
       exact ((m5_ hQ hd).2 (ha _ (List.mem_cons_self ..))).1
theorem zW_ (HT:TOk P C T) (S:SRel C Mut Lent w0 ρ env objs a.tmps w) (o:Oper):∀i∈nG_ T o env,i<objs.length:=by
  intro i hi
  simp only [nG_,List.mem_flatMap] at hi
  obtain ⟨x,hx,h⟩:=hi
  exact k8_ (aB_ HT S 0 x) i h
theorem zR_ (hdep:∀(k:Nat) (o:Oper),all[k]? =some o→∀d∈dg_ o,d<k) {listed:Array Bool} (hls:listed.size=all.size) (hr:Region.ready .any all listed=[]):∀(n k:Nat) (o:Oper),k<n→all[k]? =some o→listed.getD k true=false→False:=by
  intro n
  induction n with
  | zero=>intro k o hk;omega
  | succ n ih=>
    intro k o hk ho hl
    have:k∈Region.ready .any all listed:=mem_ready.mpr ⟨hl,o,ho,fun e he hb=> ?_⟩
    ·rw [hr] at this;simp at this
    ·have hdm:e.on∈dg_ o:=by
       simp only [dg_,List.mem_map,List.mem_filter]
       exact ⟨e,⟨by simpa using he,hb⟩,rfl⟩
     have hlt:=hdep k o ho _ hdm
     have hi:=(Array.getElem?_eq_some_iff.mp ho).1
     by_cases hu:listed.getD e.on false=true
     ·exact hu
     ·exfalso
      have hsz':e.on<listed.size:=by omega
      have hu':listed.getD e.on true=false:=by
        simp only [Array.getD,hsz',dite_true] at hu⊢
        simpa using hu
      exact ih e.on all[e.on] (by omega) (Array.getElem?_eq_getElem (by omega)) hu'
theorem kz_ {l:Array Bool} {i k:Nat} (h:l.getD k true=true):(l.setIfInBounds i true).getD k true=true:=by
  by_cases hk:k=i
  ·subst hk
   simp only [Array.getD]
   split
   ·simp
   ·rfl
  ·rw [getD_set_ne true (Ne.symm hk)];exact h
structure ER_ (C:Cod κ Ty) (T:TypeId→Option (TI κ Ty)) (Γ:FuncId→Option (aK_ κ Ty)) (all:Array Oper) (ex:List (Nat×Nat)) (L:List (Nat×Oper)) (l:List (Nat×Oper×lo_)) (listed:Array Bool) (env:Env κ Ty) (objs:am_ κ Ty) (e2:Env κ Ty) (o2:am_ κ Ty):Prop where
  tr:∃e2',Tr C T Γ all L env objs l e2' o2∧∀t,look e2' t=look e2 t
  chk:l.Pairwise (Chk ex all (tF_ all.toList))
  nodup:(L.map (·.1)).Nodup
  mem:∀i o,(i,o)∈L↔all[i]? =some o∧listed.getD i true=false
theorem yD_ (H:Known P C T Γ) (hQ:QuietOk Γ) {ex:List (Nat×Nat)} {e2:Env κ Ty} {o2:am_ κ Ty} (hdep:∀(k:Nat) (o:Oper),all[k]? =some o→∀d∈dg_ o,d<k) {L:List (Nat×Oper)} {l:List (Nat×Oper×lo_)} {listed:Array Bool}
    (hS:∀(o:Oper),∀i∈nG_ T o env,i<objs.length) (F:ER_ C T Γ all ex L l listed env objs e2 o2) (hls:listed.size=all.size) (hcl:∀k o,all[k]? =some o→listed.getD k false=true→∀d∈dg_ o,listed.getD d false=true)
    {i:Nat} {o:Oper} (h0:listed.getD i true=false) (ho:all[i]? =some o) (hall:∀e∈o.after,Region.binds .any e=true→listed.getD e.on false=true) (hex:∀a b,(a,b)∈ex→b=i→listed.getD a true=true):
    ∃v o1 env1 L' l',sS_ C T Γ all o env objs v o1∧jT_ C T Γ all o env objs (fun e b=>some (e,b))=some (env1,o1)∧ER_ C T Γ all ex L' l' (listed.setIfInBounds i true) env1 o1 e2 o2∧L'.length+1=L.length∧(∀x∈l',x∈l)∧∀x∈L',x.1≠i:=by
  obtain ⟨⟨e2',ht,he⟩,hp,hs,hL⟩:=F
  have hmem:=(hL i o).mpr ⟨ho,h0⟩
  obtain ⟨L1,L2,rfl⟩:=List.append_of_mem hmem
  have hh:=ht.heads
  obtain ⟨l1,x,l2,rfl,hl1,hx⟩:∃l1 x l2,l=l1++x::l2∧L1.length=l1.length∧(x.1,x.2.1)=(i,o):=by
    have hlen:l.length=(L1++(i,o)::L2).length:=by rw [←hh];simp
    refine ⟨l.take L1.length,l[L1.length]'(by rw [hlen];simp),l.drop (L1.length+1),by simp,by simp [hlen], ?_⟩
    have:(l.map fun x=>(x.1,x.2.1))[L1.length]? =some (i,o):=by rw [hh];simp
    simp only [List.getElem?_map,Option.map_eq_some_iff] at this
    obtain ⟨y,h1,h2⟩:=this
    rw [List.getElem?_eq_getElem (by rw [hlen];simp)] at h1
    cases h1;exact h2
  obtain ⟨i',o',f⟩:=x
  simp only [Prod.mk.injEq] at hx
  obtain ⟨rfl,rfl⟩:=hx
  have hanc:∀n k,k<n→listed.getD k false=true→∀e∈(tF_ all.toList).getD k [],listed.getD e false=true:=by
    intro n
    induction n with
    | zero=>intro k hk;omega
    | succ n ihn=>
      intro k hk hlk e hek
      obtain ⟨p,hp1,d,hd1,hd2⟩:=oX_ hek
      have hp1:all[k]? =some p:=by simpa using hp1
      have hdl:=hcl k p hp1 hlk d hd1
      rcases hd2 with rfl | hd2
      ·exact hdl
      ·exact ihn d (by have:=hdep k p hp1 d hd1;omega) hdl e hd2
  have hfree:∀x∈l1,nB_ all x.2.1 o'=true∧mC_ x.2.2 f=true:=by
    intro x hx
    have hxm:(x.1,x.2.1)∈L1++(i',o')::L2:=by rw [←hh];exact List.mem_map.mpr ⟨x,by simp [hx],rfl⟩
    have hxu:=((hL _ _).mp hxm)
    rcases (List.pairwise_append.mp hp).2.2 x hx _ (List.mem_cons_self ..) with h | h | h
    ·exfalso
     have h3:=hex x.1 i' (xw_ h) rfl
     rw [hxu.2] at h3;cases h3
    ·exfalso
     obtain ⟨p,hp1,d,hd1,hd2⟩:=oX_ h
     have hp1:all[i']? =some p:=by simpa using hp1
     rw [ho] at hp1;cases hp1
     have hdl:listed.getD d false=true:=by
       simp only [dg_,List.mem_map,List.mem_filter] at hd1
       obtain ⟨e,⟨e1,e2⟩,rfl⟩:=hd1
       exact hall e (by simpa using e1) e2
     have hxl:listed.getD x.1 false=true:=by
       rcases hd2 with hd2 | hd2
       ·rw [hd2];exact hdl
       ·exact hanc (d+1) d (by omega) hdl _ hd2
     have hxs:x.1<listed.size:=by rw [hls];exact (Array.getElem?_eq_some_iff.mp hxu.1).1
     have:=hxu.2
     simp only [Array.getD,hxs,dite_true] at this hxl
     rw [this] at hxl;cases hxl
    ·exact h
  obtain ⟨q1,oq,q2,q3⟩:=ht.foot_front hl1 (fun x hx=>(hfree x hx).1)
  have hreads:∀id∈f.reads,id<objs.length:=by
    cases hlf:f.loud with
    | false=>exact fun id hid=>hS o' id (q1 hlf id hid)
    | true=>
      have:=q3 (fun x hx=>by
        rcases (sr_ (hfree x hx).2).1 with h | h
        ·exact h
        ·rw [hlf] at h;cases h) hQ
      rw [this] at q2;exact q2
  obtain ⟨v,o1,e3,r1,r2,r3,r4⟩:=ht.front hQ hl1 hfree hreads
  obtain ⟨env1,s1,s2⟩:=yr_ r1
  have hsub:(L1++L2).Sublist (L1++(i',o')::L2):=List.Sublist.append_left (List.sublist_cons_self _ _) _
  have hsubl:(l1++l2).Sublist (l1++(i',o',f)::l2):=List.Sublist.append_left (List.sublist_cons_self _ _) _
  have hne:∀x∈L1++L2,x.1≠i':=by
    intro x hx
    simp only [List.map_append,List.map_cons] at hs
    have hpw:=List.nodup_append.mp hs
    simp only [List.mem_append] at hx
    rcases hx with hx | hx
    ·exact hpw.2.2 x.1 (List.mem_map_of_mem hx) i' (List.mem_cons_self ..)
    ·have:=(List.nodup_cons.mp hpw.2.1).1
     rintro e
     exact this (e▸List.mem_map_of_mem hx)
  have hil:i'<listed.size:=by rw [hls];exact (Array.getElem?_eq_some_iff.mp ho).1
  obtain ⟨e4,t1,t2⟩:=r3.look (env':=env1) s1
  refine ⟨v,o1,env1,L1++L2,l1++l2,r1,s2,⟨⟨e4,t1,fun t=>(t2 t).trans ((r4 t).trans (he t))⟩,hp.sublist hsubl,hs.sublist (hsub.map _),fun k p=> ?_⟩,by simp;omega,fun x hx=>hsubl.subset hx,hne⟩
  constructor
  ·intro hm
   obtain ⟨m1,m2⟩:=(hL k p).mp (hsub.subset hm)
   exact ⟨m1,by rw [getD_set_ne true (Ne.symm (hne _ hm))];exact m2⟩
  ·rintro ⟨m1,m2⟩
   have hki:k≠i':=by
     rintro rfl
     simp [Array.getD,hil] at m2
   rw [getD_set_ne true (Ne.symm hki)] at m2
   have:=(hL k p).mpr ⟨m1,m2⟩
   simp only [List.mem_append,List.mem_cons,Prod.mk.injEq] at this⊢
   rcases this with h | ⟨h,_⟩ | h
   ·exact .inl h
   ·exact absurd h hki
   ·exact .inr h
theorem qi_ {listed:Array Bool} {i:Nat} {o:Oper} (ho:all[i]? =some o) (hall:∀e∈o.after,Region.binds .any e=true→listed.getD e.on false=true) (hcl:∀k o,all[k]? =some o→listed.getD k false=true→∀d∈dg_ o,listed.getD d false=true):
    ∀k o,all[k]? =some o→(listed.setIfInBounds i true).getD k false=true→∀d∈dg_ o,(listed.setIfInBounds i true).getD d false=true:=by
  intro k p hk hlk d hdd
  by_cases hki:k=i
  ·subst hki
   rw [ho] at hk;cases hk
   simp only [dg_,List.mem_map,List.mem_filter] at hdd
   obtain ⟨e,⟨e1,e2⟩,rfl⟩:=hdd
   exact getD_set_true (hall e (by simpa using e1) e2)
  ·rw [getD_set_ne false (Ne.symm hki)] at hlk
   exact getD_set_true (hcl k p hk hlk d hdd)
theorem elemN_mem':∀{l:List Nat} {i:Nat},gB_ i l=true↔i∈l:=by
  intro l
  induction l with
  | nil=>intro i;simp [gB_]
  | cons j l ih=>
    intro i
    simp only [gB_,List.mem_cons]
    split
    ·rename_i e
     have:=Nat.eq_of_beq_eq_true e
     simp [this]
    ·rename_i e
     rw [ih]
     constructor
     ·exact .inr
     ·rintro (h | h)
      ·subst h;simp at e
      ·exact h
theorem anyN_iff {p:Nat→Bool}:∀{l:List Nat},B3_ p l=true↔∃i∈l,p i=true:=by
  intro l
  induction l with
  | nil=>simp [B3_]
  | cons j l ih=>
    simp only [B3_]
    split
    ·rename_i e;simp [e]
    ·rename_i e;rw [ih];simp [e]
theorem leastN_iff {anc:List (List Nat)} {R:List Nat} {i:Nat}:nW_ anc R i=true↔∀j∈R,j∉anc.getD i []:=by
  unfold nW_
  rw [Bool.not_eq_true',←Bool.not_eq_true,anyN_iff]
  constructor
  ·intro h j hj hm;exact h ⟨j,hj,elemN_mem'.mpr hm⟩
  ·rintro h ⟨j,hj,hm⟩;exact h j hj (elemN_mem'.mp hm)
theorem ms_:∀{l:List Nat} {i j:Nat},l.Nodup→(j∈yG_ i l↔j∈l∧j≠i)
  | [],i,j,_=>by simp [yG_]
  | x::l,i,j,h=>by
    obtain ⟨h1,h2⟩:=List.nodup_cons.mp h
    simp only [yG_]
    split
    ·rename_i e
     have:=Nat.eq_of_beq_eq_true e
     subst this
     simp only [List.mem_cons]
     constructor
     ·intro hj;exact ⟨.inr hj,fun e=>h1 (e▸hj)⟩
     ·rintro ⟨rfl | hj,hn⟩
      ·exact absurd rfl hn
      ·exact hj
    ·rename_i e
     have hx:x≠i:=fun he=>by subst he;simp at e
     simp only [List.mem_cons,ms_ h2]
     constructor
     ·rintro (rfl | ⟨hj,hn⟩)
      ·exact ⟨.inl rfl,hx⟩
      ·exact ⟨.inr hj,hn⟩
     ·rintro ⟨rfl | hj,hn⟩
      ·exact .inl rfl
      ·exact .inr ⟨hj,hn⟩
theorem jF_:∀{l:List Nat} {i:Nat},l.Nodup→(yG_ i l).Nodup
  | [],i,_=> .nil
  | x::l,i,h=>by
    obtain ⟨h1,h2⟩:=List.nodup_cons.mp h
    simp only [yG_]
    split
    ·exact h2
    ·exact List.nodup_cons.mpr ⟨fun hm=>h1 ((ms_ h2).mp hm).1,jF_ h2⟩
theorem oZ_ {anc:List (List Nat)}:∀{n:Nat} {R τ:List Nat},R.Nodup→τ∈vW_ anc n R→∀i∈τ,i∈R
  | 0,R,τ,_,h,i,hi=>by
    simp only [vW_,List.mem_singleton] at h;subst h;simp at hi
  | n+1,R,τ,hR,h,i,hi=>by
    simp only [vW_,List.mem_flatMap] at h
    obtain ⟨j,hj,h⟩:=h
    split at h
    ·obtain ⟨τ',h',rfl⟩:=List.mem_map.mp h
     rcases List.mem_cons.mp hi with rfl | hi
     ·exact hj
     ·exact ((ms_ hR).mp (oZ_ (jF_ hR) h' i hi)).1
    ·simp at h
theorem uX_ {anc:List (List Nat)} {n:Nat} {R τ:List Nat} {i:Nat} (hi:i∈R) (hl:nW_ anc R i=true) (h:τ∈vW_ anc n (yG_ i R)):i::τ∈vW_ anc (n+1) R:=by
  simp only [vW_,List.mem_flatMap]
  exact ⟨i,hi,by rw [hl];exact List.mem_map.mpr ⟨τ,h,rfl⟩⟩
theorem us_ {anc:List (List Nat)} {n:Nat} {R:List Nat} {i:Nat} (h:live anc (n+1) R=true) (hi:i∈R) (hl:nW_ anc R i=true):live anc n (yG_ i R)=true:=by
  simp only [live] at h
  split at h
  ·split at h
   ·cases h
   ·rename_i e
    have e:=Bool.not_eq_true _▸e
    by_cases hv:live anc n (yG_ i R)=true
    ·exact hv
    ·exfalso
     apply e
     refine anyN_iff.mpr ⟨i,hi, ?_⟩
     rw [hl];simpa using hv
  ·cases h
theorem jy_ {anc:List (List Nat)}:∀{n:Nat} {R:List Nat},live anc n R=true→∃τ,τ∈vW_ anc n R
  | 0,R,h=>⟨[],by simp [vW_]⟩
  | n+1,R,h=>by
    have h':=h
    simp only [live] at h
    split at h
    ·rename_i e
     obtain ⟨i,hi,hl⟩:=anyN_iff.mp e
     obtain ⟨τ,ht⟩:=jy_ (us_ h' hi hl)
     exact ⟨_,uX_ hi hl ht⟩
    ·cases h
theorem yL_ {anc:List (List Nat)} {R:List Nat} (h:live anc 0 R=true):R=[]:=by
  cases R with
  | nil=>rfl
  | cons=>cases h
theorem lg_:∀{d t:List Nat} {a b:Nat},(a,b)∈fd_ (d++t)→(b∈d)∨(a∈d∧b∈t)∨(a,b)∈fd_ t
  | [],t,a,b,h=> .inr (.inr h)
  | x::d,t,a,b,h=>by
    simp only [List.cons_append,fd_,List.mem_append,List.mem_map] at h
    rcases h with ⟨c,hc,e⟩ | h
    ·cases e
     rcases hc with hc | hc
     ·exact .inl (List.mem_cons_of_mem _ hc)
     ·exact .inr (.inl ⟨List.mem_cons_self ..,hc⟩)
    ·rcases lg_ h with h | ⟨h1,h2⟩ | h
     ·exact .inl (List.mem_cons_of_mem _ h)
     ·exact .inr (.inl ⟨List.mem_cons_of_mem _ h1,h2⟩)
     ·exact .inr (.inr h)
theorem lh_:∀{t:List Nat} {a b:Nat},(a,b)∈fd_ t→b∈t.tail
  | [],_,_,h=>by cases h
  | x::t,a,b,h=>by
    simp only [fd_,List.mem_append,List.mem_map] at h
    rcases h with ⟨c,hc,e⟩ | h
    ·cases e;exact hc
    ·exact List.mem_of_mem_tail (lh_ h)
theorem sA_ {listed:Array Bool} (hdep:∀(k:Nat) (o:Oper),all[k]? =some o→∀d∈dg_ o,d<k) (hcl:∀k o,all[k]? =some o→listed.getD k false=true→∀d∈dg_ o,listed.getD d false=true):
    ∀n k,k<n→listed.getD k false=true→∀e∈(tF_ all.toList).getD k [],listed.getD e false=true:=by
  intro n
  induction n with
  | zero=>intro k hk;omega
  | succ n ihn=>
    intro k hk hlk e hek
    obtain ⟨p,hp1,d,hd1,hd2⟩:=oX_ hek
    have hp1:all[k]? =some p:=by simpa using hp1
    have hdl:=hcl k p hp1 hlk d hd1
    rcases hd2 with rfl | hd2
    ·exact hdl
    ·exact ihn d (by have:=hdep k p hp1 d hd1;omega) hdl e hd2
theorem xO_ (H:Known P C T Γ) (hQ:QuietOk Γ) {nt:Nat} {Q:Exit→Act→World→Prop} (hd:∀o∈all.toList,∀d,o.dst=some d→d<nt)
    (hdep:∀(k:Nat) (o:Oper),all[k]? =some o→∀d∈dg_ o,d<k) (df:List Deferred):
    ∀(fuel n:Nat) (R dn:List Nat) (listed:Array Bool) (env:Env κ Ty) (objs:am_ κ Ty) (ρ:Nat→Loc) (a:Act) (w:World),
     live (tF_ all.toList) n R=true→R.Nodup→(∀i∈R,i<all.size∧listed.getD i true=false)→(∀i∈dn,listed.getD i true=true)→
     (∀τ∈vW_ (tF_ all.toList) n R,∃L l e2 o2,L.length≤fuel∧ER_ C T Γ all (fd_ (dn++τ)) L l listed env objs e2 o2∧
       ∀ρ' a' w' env',(∀t,look env' t=look e2 t)→SRel C Mut Lent w0 ρ' env' o2 a'.tmps w'→a'.tmps.size=nt→a'.defers=df→Q .normal a' w')→
     SRel C Mut Lent w0 ρ env objs a.tmps w→a.tmps.size=nt→a.defers=df→
     listed.size=all.size→(∀k o,all[k]? =some o→listed.getD k false=true→∀d∈dg_ o,listed.getD d false=true)→
     wpAny P .any all Q fuel listed a w:=by
  intro fuel
  induction fuel with
  | zero=>
    intro n R dn listed env objs ρ a w hlv hRn hR hdn F S hsz hdf hls hcl
    obtain ⟨τ,hτ⟩:=jy_ hlv
    obtain ⟨L,l,e2,o2,hlen,⟨⟨e2',ht,he⟩,hp,hs,hL⟩,hn⟩:=F τ hτ
    obtain rfl:L=[]:=List.length_eq_zero_iff.mp (by omega)
    cases ht
    refine ⟨?_,hn ρ a w env he S hsz hdf⟩
    rw [List.eq_nil_iff_forall_not_mem]
    intro j hj
    obtain ⟨h0,o,ho,_⟩:=mem_ready.mp hj
    have:=(hL j o).mpr ⟨ho,h0⟩
    simp at this
  | succ fuel ih=>
    intro n R dn listed env objs ρ a w hlv hRn hR hdn F S hsz hdf hls hcl
    refine ⟨fun hr=> ?_,fun i hi=> ?_⟩
    ·obtain ⟨τ,hτ⟩:=jy_ hlv
     obtain ⟨L,l,e2,o2,hlen,⟨⟨e2',ht,he⟩,hp,hs,hL⟩,hn⟩:=F τ hτ
     cases ht with
     | nil=>exact hn ρ a w env he S hsz hdf
     | cons hdo hrd htt=>
       rename_i i o L' v o1 l'
       exfalso
       obtain ⟨h1,h2⟩:=(hL i o).mp (List.mem_cons_self ..)
       exact zR_ hdep hls hr (i+1) i o (by omega) h1 h2
    ·obtain ⟨h0,o,ho,hall⟩:=mem_ready.mp hi
     have hil:i<listed.size:=by rw [hls];exact (Array.getElem?_eq_some_iff.mp ho).1
     unfold wpOp
     rw [ho];dsimp only
     have step:∀(m:Nat) (R' dn':List Nat),live (tF_ all.toList) m R'=true→R'.Nodup→(∀j∈R',j<all.size∧(listed.setIfInBounds i true).getD j true=false)→(∀j∈dn',(listed.setIfInBounds i true).getD j true=true)→
      (∀τ∈vW_ (tF_ all.toList) m R',∃τ0∈vW_ (tF_ all.toList) n R,dn'++τ=dn++τ0∧∀a b,(a,b)∈fd_ (dn++τ0)→b=i→listed.getD a true=true)→
      ∃env1 o1,jT_ C T Γ all o env objs (fun e b=>some (e,b))=some (env1,o1)∧∀ρ' a' w',SRel C Mut Lent w0 ρ' env1 o1 a'.tmps w'→a'.tmps.size=a.tmps.size→a'.defers=a.defers→wpAny P .any all Q fuel (listed.setIfInBounds i true) a' w':=by
       intro m R' dn' hlv' hRn' hR' hdn' hτs
       have one:∀τ∈vW_ (tF_ all.toList) m R',∃env1 o1 L l e2 o2,jT_ C T Γ all o env objs (fun e b=>some (e,b))=some (env1,o1)∧L.length≤fuel∧ER_ C T Γ all (fd_ (dn'++τ)) L l (listed.setIfInBounds i true) env1 o1 e2 o2∧
        ∀ρ' a' w' env',(∀t,look env' t=look e2 t)→SRel C Mut Lent w0 ρ' env' o2 a'.tmps w'→a'.tmps.size=nt→a'.defers=df→Q .normal a' w':=fun τ hτ=>by
         obtain ⟨τ0,h1,h2,h3⟩:=hτs τ hτ
         obtain ⟨L,l,e2,o2,hlen,G,hn⟩:=F τ0 h1
         obtain ⟨v,o1,env1,L',l',r1,s2,G',hlen',_,_⟩:=yD_ H hQ hdep (fun o=>zW_ H.ty S o) G hls hcl h0 ho hall h3
         exact ⟨env1,o1,L',l',e2,o2,s2,by omega,by rw [h2];exact G',hn⟩
       obtain ⟨τ,hτ⟩:=jy_ hlv'
       obtain ⟨env1,o1,_,_,_,_,s2,_⟩:=one τ hτ
       refine ⟨env1,o1,s2,fun ρ' a' w' S' hz hdf'=> ?_⟩
       refine ih m R' dn' _ env1 o1 ρ' a' w' hlv' hRn' hR' hdn' (fun τ hτ=> ?_) S' (hz.trans hsz) (hdf'.trans hdf) (by simpa using hls) (qi_ ho hall hcl)
       obtain ⟨env1',o1',L,l,e2,o2,s2',hlen,G,hn⟩:=one τ hτ
       rw [s2] at s2';cases s2'
       exact ⟨L,l,e2,o2,hlen,G,hn⟩
     have go:∃env1 o1,jT_ C T Γ all o env objs (fun e b=>some (e,b))=some (env1,o1)∧∀ρ' a' w',SRel C Mut Lent w0 ρ' env1 o1 a'.tmps w'→a'.tmps.size=a.tmps.size→a'.defers=a.defers→wpAny P .any all Q fuel (listed.setIfInBounds i true) a' w':=by
       by_cases hiR:i∈R
       ·
         cases n with
         | zero=>rw [yL_ hlv] at hiR;cases hiR
         | succ n=>
           have hal:=sA_ hdep (qi_ ho hall hcl) (i+1) i (by omega) (by simp [Array.getD,hil])
           have hle:nW_ (tF_ all.toList) R i=true:=leastN_iff.mpr fun j hj hm=>by
             obtain ⟨p,hp1,d,hd1,hd2⟩:=oX_ hm
             have hp1:all[i]? =some p:=by simpa using hp1
             rw [ho] at hp1;cases hp1
             have hdl:listed.getD d false=true:=by
               simp only [dg_,List.mem_map,List.mem_filter] at hd1
               obtain ⟨e,⟨e1,e2⟩,rfl⟩:=hd1
               exact hall e (by simpa using e1) e2
             have hjl:listed.getD j false=true:=by
               rcases hd2 with rfl | hd2
               ·exact hdl
               ·exact sA_ hdep hcl (d+1) d (by omega) hdl j hd2
             obtain ⟨j1,j2⟩:=hR j hj
             have hjs:j<listed.size:=by rw [hls];exact j1
             simp [Array.getD,hjs] at hjl j2
             rw [hjl] at j2;cases j2
           refine step n (yG_ i R) (dn++[i]) (us_ hlv hiR hle) (jF_ hRn) (fun j hj=> ?_) (fun j hj=> ?_) (fun τ hτ=> ?_)
           ·obtain ⟨j1,j2⟩:=(ms_ hRn).mp hj
            refine ⟨(hR j j1).1, ?_⟩
            rw [getD_set_ne true (Ne.symm j2)];exact (hR j j1).2
           ·rcases List.mem_append.mp hj with hj | hj
            ·exact kz_ (hdn j hj)
            ·simp only [List.mem_singleton] at hj;subst hj;simp [Array.getD,hil]
           ·refine ⟨i::τ,uX_ hiR hle hτ,by simp,fun a b hab hb=> ?_⟩
            subst hb
            rcases lg_ hab with h | ⟨h,_⟩ | h
            ·have:=hdn _ h;rw [h0] at this;cases this
            ·exact hdn _ h
            ·have:=oZ_ (jF_ hRn) hτ _ (lh_ h)
             exact absurd rfl ((ms_ hRn).mp this).2
       ·refine step n R dn hlv hRn (fun j hj=> ?_) (fun j hj=>kz_ (hdn j hj)) (fun τ hτ=>⟨τ,hτ,rfl,fun a b hab hb=> ?_⟩)
        ·refine ⟨(hR j hj).1, ?_⟩
         rw [getD_set_ne true (fun e:i=j=>hiR (by rw [e];exact hj))];exact (hR j hj).2
        ·subst hb
         rcases lg_ hab with h | ⟨_,h⟩ | h
         ·have:=hdn _ h;rw [h0] at this;cases this
         ·exact absurd (oZ_ hRn hτ _ h) hiR
         ·exact absurd (oZ_ hRn hτ _ (List.mem_of_mem_tail (lh_ h))) hiR
     obtain ⟨env1,o1,s2,hgo'⟩:=go
     have hgo:∀env' objs' ρ' a' w',(some (env',objs'):Option (Env κ Ty×am_ κ Ty))=some (env1,o1)→SRel C Mut Lent w0 ρ' env' objs' a'.tmps w'→a'.tmps.size=a.tmps.size→a'.defers=a.defers→
      wpAny P .any all Q fuel (listed.setIfInBounds i true) a' w':=by
       intro env' objs' ρ' a' w' heq S' hz hdf'
       cases heq
       exact hgo' ρ' a' w' S' hz hdf'
     have hst:=ps_ (next:=wpAny P .any all Q fuel (listed.setIfInBounds i true)) (Q:=Q) H S (hd:=fun d hdd=>by rw [hsz];exact hd o (by simpa using Array.mem_of_getElem? ho) d hdd) s2 hgo
     split at hst
     ·rename_i hw;rw [if_pos hw];exact .inl hst
     ·rename_i hw;rw [if_neg hw];exact hst
theorem fV_:∀{l:List (Nat×Oper)},l.Pairwise (fun x y=>x.1<y.1)→(l.map (·.1)).Nodup
  | [],_=> .nil
  | x::l,h=>by
    obtain ⟨h1,h2⟩:=List.pairwise_cons.mp h
    simp only [List.map_cons,List.nodup_cons]
    refine ⟨fun hm=> ?_,fV_ h2⟩
    obtain ⟨y,hy,e⟩:=List.mem_map.mp hm
    have:=h1 y hy;omega
theorem za_ (anc:List (List Nat)) (a:Nat) (l:List (Nat×Oper)):(Er_ anc l a).Perm l:=by
  unfold Er_
  refine List.perm_append_comm.trans ?_
  exact List.filter_append_perm (Am_ anc a) l
theorem z3_ {x y:Option R} {r:R} (h:both x y=some r):x=some r∧y=some r:=by
  unfold both at h
  split at h
  ·rename_i e;exact ⟨h,e▸h⟩
  ·cases h
theorem rX_:∀{l:List (Option R)} {r:R},xg_ l=some r→∀x∈l,x=some r
  | [],r,h,x,hx=>by cases hx
  | [y],r,h,x,hx=>by
    simp only [List.mem_singleton] at hx;subst hx;exact h
  | y::z::l,r,h,x,hx=>by
    obtain ⟨h1,h2⟩:=z3_ (show both y (xg_ (z::l))=some r from h)
    rcases List.mem_cons.mp hx with rfl | hx
    ·exact h1
    ·exact rX_ h2 x hx
theorem ny_ {anc:List (List Nat)} {l:List (Nat×Oper)}:∀{es:List (List Nat)},oU_ all anc l es=true→∀τ∈es,u4_ (fd_ τ) all anc (k9_ anc l τ)=true
  | [],_,τ,h=>by cases h
  | t::es,h,τ,ht=>by
    simp only [oU_] at h
    split at h
    ·rename_i e
     rcases List.mem_cons.mp ht with rfl | ht
     ·exact e
     ·exact ny_ h τ ht
    ·cases h
theorem sc_ (anc:List (List Nat)):∀(t:List Nat) (l:List (Nat×Oper)),(t.foldl (Er_ anc) l).Perm l
  | [],l=> .refl _
  | x::t,l=>(sc_ anc t (Er_ anc l x)).trans (za_ anc x l)
theorem uJ_ (anc:List (List Nat)) (l:List (Nat×Oper)) (τ:List Nat):(k9_ anc l τ).Perm l:=by
  unfold k9_
  split
  ·exact .refl _
  ·exact sc_ anc τ.tail l
theorem pR_:∀{l:List Nat},A7_ l=true→l.Nodup
  | [],_=> .nil
  | i::l,h=>by
    simp only [A7_] at h
    split at h
    ·cases h
    ·rename_i e
     refine List.nodup_cons.mpr ⟨fun hm=> ?_,pR_ h⟩
     have:=elemN_mem'.mpr hm
     rw [e] at this
     cases this
theorem Bw_ {n:Nat}:∀{l:List Nat},inN n l=true→∀i∈l,i<n
  | [],_,i,h=>by cases h
  | j::l,h,i,hi=>by
    simp only [inN] at h
    split at h
    ·rename_i e
     rcases List.mem_cons.mp hi with rfl | hi
     ·exact Nat.blt_eq.mp e
     ·exact Bw_ h i hi
    ·cases h
theorem wx_ (H:Known P C T Γ) (hQ:QuietOk Γ) {all:Array Oper} {nt:Nat} {K:Env κ Ty→am_ κ Ty→Option R} {r:R} {Q:Exit→Act→World→Prop}
    (hd:∀o∈all.toList,∀d,o.dst=some d→d<nt) (hsz:a.tmps.size=nt) (S:SRel C Mut Lent w0 ρ env objs a.tmps w) (h:Cz_ C T Γ all env objs K=some r)
    (hn:∀env' objs' ρ' a' w',K env' objs'=some r→SRel C Mut Lent w0 ρ' env' objs' a'.tmps w'→a'.tmps.size=nt→a'.defers=a.defers→Q .normal a' w'):
    wpAny P .any all Q all.size (Array.replicate all.size false) a w:=by
  have hlist:∀i o,(i,o)∈num 0 all.toList↔all[i]? =some o∧(Array.replicate all.size false).getD i true=false:=fun i o=>by
    rw [num_mem]
    constructor
    ·rintro ⟨_,h⟩
     have h:all[i]? =some o:=by simpa using h
     have:=(Array.getElem?_eq_some_iff.mp h).1
     exact ⟨h,by simp [Array.getD,this]⟩
    ·rintro ⟨h,_⟩
     exact ⟨Nat.zero_le _,by simpa using h⟩
  have hcl:∀k o,all[k]? =some o→(Array.replicate all.size false).getD k false=true→∀d∈dg_ o,(Array.replicate all.size false).getD d false=true:=fun k o hk hl=>by
    exfalso
    have:=(Array.getElem?_eq_some_iff.mp hk).1
    simp [Array.getD,this] at hl
  have hdepOf:∀{L:List (Nat×Oper)},L.Perm (num 0 all.toList)→(∀x∈L,∀d∈dg_ x.2,d<x.1)→∀(k:Nat) (o:Oper),all[k]? =some o→∀d∈dg_ o,d<k:=fun hp h6 k o hk d hdd=>by
    have hk0:(Array.replicate all.size false).getD k true=false:=by
      have:=(Array.getElem?_eq_some_iff.mp hk).1
      simp [Array.getD,this]
    exact h6 (k,o) (hp.mem_iff.mpr ((hlist k o).mpr ⟨hk,hk0⟩)) d hdd
  unfold Cz_ at h
  dsimp only at h
  split at h
  case h_2=>cases h
  rename_i hck
  simp only [Bool.and_eq_true] at hck
  obtain ⟨hlv,hdi,hin,hap⟩:=hck
  generalize hW:DZ_ Γ (tF_ all.toList) (num 0 all.toList)=W at*
  have hall1:∀τ∈vW_ (tF_ all.toList) W.length W,sZ_ C T (fd_ τ) Γ all (tF_ all.toList) (k9_ (tF_ all.toList) (num 0 all.toList) τ) [] [] env objs K=some r:=fun τ hτ=>rX_ h _ (List.mem_map.mpr ⟨τ,hτ,rfl⟩)
  have hap1:=fun τ hτ=>qQ_ (ny_ hap τ hτ)
  have hp:∀τ,(k9_ (tF_ all.toList) (num 0 all.toList) τ).Perm (num 0 all.toList):=fun τ=>uJ_ _ _ _
  obtain ⟨τ0,hτ0⟩:=jy_ hlv
  refine xO_ H hQ hd (hdepOf (hp τ0) (hap1 τ0 hτ0).2) a.defers all.size W.length W [] _ env objs ρ a w hlv (pR_ hdi) (fun i hi=> ?_) (fun i hi=>by simp at hi) (fun τ hτ=> ?_) S hsz rfl (by simp) hcl
  ·have:=Bw_ hin i hi
   rw [mK_] at this
   have:i<all.size:=by simpa using this
   exact ⟨this,by simp [Array.getD,this]⟩
  ·obtain ⟨l,e2,o2,e3,h1,h2,h3,h4,_⟩:=wS_ (fun x hx=>by simp at hx) (hall1 τ hτ)
   replace h4:=xp_ h4 (by rw [h1.heads];exact (hap1 τ hτ).1)
   refine ⟨_,l,e2,o2,by rw [(hp τ).length_eq,mK_];simp,⟨⟨e2,h1,fun _=>rfl⟩,by simpa using h4,((hp τ).map _).nodup_iff.mpr (fV_ (sn_ _ _)),fun i o=>by rw [(hp τ).mem_iff];exact hlist i o⟩,fun ρ' a' w' env' he S' hz hdf=> ?_⟩
   exact hn e3 o2 ρ' a' w' h2 (S'.setEnv fun i=>by rw [h3 i,←he i];exact S'.env i) hz hdf
theorem SRel.drawn (S:SRel C Mut Lent w0 ρ env objs tm w) (n:Nat):SRel C Mut Lent w0 ρ env objs tm {w with drawn:=n}:=by
  have W:WStep w {w with drawn:=n} (aN_ ρ objs) (aN_ ρ objs):=⟨fun _ _ _=>rfl,Nat.le_refl _,fun _ h=> .inl h⟩
  exact S.step W (Nat.le_refl _) (fun _=> .refl _) (fun id=>ORel.step W (Nat.le_refl _) (fun _=> .refl _) (S.ob id) rfl rfl (fun _ _=>rfl)) (fun i j b hi hj=>S.inj i j b hi hj) rfl rfl rfl
end
end Km
namespace Km
open Go
set_option linter.unusedVariables false
set_option linter.unusedSimpArgs false
variable {κ:Type} {Ty:κ→Type} {R:Type}
def tH_:Code→List Nat
  | .seq a b=>tH_ a++tH_ b
  | .block _ c=>tH_ c
  | .loop c=>tH_ c
  | .cond _ a b=>tH_ a++tH_ b
  | .region i _ _=>[i]
  | _=>[]
def okC (nt:Nat):Code→Bool
  | .seq a b=>okC nt a&&okC nt b
  | .block _ c=>okC nt c
  | .loop c=>okC nt c
  | .cond _ a b=>okC nt a&&okC nt b
  | .region _ ops _=>ops.toList.all fun o=>match o.dst with | some d=>Nat.blt d nt | none=>true
  | _=>true
def sy_:List Nat→Bool
  | []=>true
  | i::l=>match gB_ i l with | true=>false | false=>sy_ l
theorem su_:∀{l:List Nat},sy_ l=true→l.Nodup
  | [],_=>List.nodup_nil
  | i::l,h=>by
    simp only [sy_] at h
    split at h
    ·cases h
    ·rename_i hi
     exact List.nodup_cons.mpr ⟨fun hm=>(by rw [(eb_ i l).mpr hm] at hi;cases hi),su_ h⟩
theorem dC_ {id:Nat}:∀(c:Code) (k t:List It),b1_ id c k=some t→id∈tH_ c
  | .seq a b,k,t,h=>by
    simp only [b1_] at h
    split at h
    ·rename_i t' h';simp [tH_,dC_ a _ _ h']
    ·simp [tH_,dC_ b _ _ h]
  | .block j c,k,t,h=>by simp only [b1_] at h;exact dC_ c _ _ h
  | .loop c,k,t,h=>by simp only [b1_] at h;exact dC_ c _ _ h
  | .cond q a b,k,t,h=>by
    simp only [b1_] at h
    split at h
    ·rename_i t' h';simp [tH_,dC_ a _ _ h']
    ·simp [tH_,dC_ b _ _ h]
  | .region i ops d,k,t,h=>by
    simp only [b1_] at h
    split at h
    ·rename_i hb;simp [tH_,Nat.eq_of_beq_eq_true hb]
    ·cases h
  | .skip,k,t,h=>by simp [b1_] at h
  | .exit _,k,t,h=>by simp [b1_] at h
  | .ret,k,t,h=>by simp [b1_] at h
  | .label _,k,t,h=>by simp [b1_] at h
  | .goto _,k,t,h=>by simp [b1_] at h
def Piece (nt:Nat) (body c:Code) (k:List It):Prop:=okC nt c=true∧(tH_ c).Nodup∧∀id t,b1_ id c k=some t→b1_ id body []=some t
def Pos (nt:Nat) (body:Code):List It→Prop
  | []=>True
  | .code c::k=>Piece nt body c k∧Pos nt body k
  | .inBlock _::k=>Pos nt body k
  | .inLoop c::k=>Piece nt body c (.inLoop c::k)∧Pos nt body k
def iD_:It→Item
  | .code c=> .code c
  | .inBlock id=> .inBlock id
  | .inLoop c=> .inLoop c
theorem hI_ {id:Nat}:∀{k k':List It},g4_ id k=some k'→exitTo id (k.map iD_)=some (k'.map iD_)
  | [],_,h=>by simp [g4_] at h
  | .inBlock j::l,k',h=>by
    simp only [g4_] at h
    simp only [List.map_cons,iD_,exitTo]
    split at h
    ·rename_i hb;have:=Nat.eq_of_beq_eq_true hb;cases h;simp [this]
    ·rename_i hb
     have:(j==id)=false:=by
       cases hc:j==id with
       | false=>rfl
       | true=>have:=eq_of_beq hc;subst this;simp at hb
     rw [if_neg (by simp [this])]
     exact hI_ h
  | .code _::l,k',h=>by
    simp only [g4_] at h
    simp only [List.map_cons,iD_,exitTo]
    exact hI_ h
  | .inLoop _::l,k',h=>by
    simp only [g4_] at h
    simp only [List.map_cons,iD_,exitTo]
    exact hI_ h
theorem jM_ {nt:Nat} {body:Code} {id:Nat}:∀{k k':List It},g4_ id k=some k'→Pos nt body k→Pos nt body k'
  | [],_,h,_=>by simp [g4_] at h
  | .inBlock j::l,k',h,p=>by
    simp only [g4_] at h
    split at h
    ·cases h;exact p
    ·exact jM_ h p
  | .code _::l,k',h,p=>by
    simp only [g4_] at h
    exact jM_ h p.2
  | .inLoop _::l,k',h,p=>by
    simp only [g4_] at h
    exact jM_ h p.2
theorem Piece.seq {nt:Nat} {body a b:Code} {k:List It} (h:Piece nt body (.seq a b) k):Piece nt body a (.code b::k)∧Piece nt body b k:=by
  obtain ⟨h1,h2,h3⟩:=h
  simp only [okC,Bool.and_eq_true] at h1
  simp only [tH_,List.nodup_append] at h2
  refine ⟨⟨h1.1,h2.1,fun id t h=>h3 id t (by simp [b1_,h])⟩,⟨h1.2,h2.2.1,fun id t h=>h3 id t ?_⟩⟩
  have:b1_ id a (.code b::k)=none:=by
    cases he:b1_ id a (.code b::k) with
    | none=>rfl
    | some t'=>exact absurd rfl (h2.2.2 id (dC_ _ _ _ he) id (dC_ _ _ _ h))
  simp [b1_,this,h]
theorem Piece.cond {nt:Nat} {body a b:Code} {q:Operand} {k:List It} (h:Piece nt body (.cond q a b) k):Piece nt body a k∧Piece nt body b k:=by
  obtain ⟨h1,h2,h3⟩:=h
  simp only [okC,Bool.and_eq_true] at h1
  simp only [tH_,List.nodup_append] at h2
  refine ⟨⟨h1.1,h2.1,fun id t h=>h3 id t (by simp [b1_,h])⟩,⟨h1.2,h2.2.1,fun id t h=>h3 id t ?_⟩⟩
  have:b1_ id a k=none:=by
    cases he:b1_ id a k with
    | none=>rfl
    | some t'=>exact absurd rfl (h2.2.2 id (dC_ _ _ _ he) id (dC_ _ _ _ h))
  simp [b1_,this,h]
theorem Piece.block {nt:Nat} {body c:Code} {j:Nat} {k:List It} (h:Piece nt body (.block j c) k):Piece nt body c (.inBlock j::k):=⟨h.1,h.2.1,fun id t e=>h.2.2 id t e⟩
theorem Piece.loop {nt:Nat} {body c:Code} {k:List It} (h:Piece nt body (.loop c) k):Piece nt body c (.inLoop c::k):=⟨h.1,h.2.1,fun id t e=>h.2.2 id t e⟩
section
variable {P:Program} {C:Cod κ Ty} {T:TypeId→Option (TI κ Ty)} {Γ:FuncId→Option (aK_ κ Ty)}
variable {Mut:Nat→Prop} {Lent:Org κ Ty} {w0 w w':World} {ρ ρ' ρ2:Nat→Loc} {env:Env κ Ty} {objs objs' objs2:am_ κ Ty} {a:Act} {tm:Array Value}
theorem wO_ (S:SRel C Mut Lent w0 ρ env objs tm w):∀(slots:List Nat),ORL C w Mut ρ objs (slots.map (look env)) (slots.map fun i=>tm[i]?)
  | []=>trivial
  | i::l=>by
    refine ⟨?_,wO_ S l⟩
    rcases S.env i with h | ⟨u,h1,h2⟩
    ·rw [h]
     show OR C w Mut ρ objs .undef tm[i]?
     cases ht:tm[i]? with
     | none=>exact rfl
     | some u=>exact VRel.undef (u:=u)
    ·simp only [h1];exact h2
theorem uC_:∀{slots:List Nat} {vs:List (AV κ Ty)},ORL C w Mut ρ objs vs (slots.map fun i=>tm[i]?)→
    ∀i,look (iR_ slots vs) i= .undef∨∃u,tm[i]? =some u∧VRel C w Mut ρ objs (look (iR_ slots vs) i) u
  | [],[],h,i=> .inl rfl
  | [],_::_,h,i=>h.elim
  | _::_,[],h,i=>h.elim
  | j::l,v::vs,h,i=>by
    simp only [iR_,eO_]
    split
    ·rename_i e;subst e
     have:=h.1
     cases ht:tm[i]? with
     | none=>simp only [ht] at this;exact .inl this
     | some u=>simp only [ht] at this;exact .inr ⟨u,rfl,this⟩
    ·exact uC_ h.2 i
theorem yT_ {Γ:Nat→FuncId→Option (aK_ κ Ty)} {Λ:Nat→Nat→List (AV κ Ty)→am_ κ Ty→Option R} {cuts:List (Nat×List Nat)} {fin:Env κ Ty→am_ κ Ty→Option R} {nt:Nat} {body:Code} {cs:List Frame} {b:Frame}
    (hm:P.follows .mixedOrders=true) (H:∀k,Known P C T (Γ k)) (HQ:∀k,QuietOk (Γ k)) (hbody:Piece nt body body [])
    (h0:∀id vs os,Λ 0 id vs os=none)
    (h1:∀k id vs os r slots,v0_ cuts id=some slots→Λ (k+1) id vs os=some r→∃n todo,b1_ id body []=some todo∧run C T (Γ k) (Λ k) cuts Lent.objs.length fin n true todo (iR_ slots vs) os=some r)
    {r:R}:∀(k n:Nat) (fresh:Bool) (todo:List It) (env:Env κ Ty) (objs:am_ κ Ty) (ρ:Nat→Loc) (a:Act) (w:World),Pos nt body todo→a.tmps.size=nt→a.defers=[]→
    SRel C Mut Lent w0 ρ env objs a.tmps w→run C T (Γ k) (Λ k) cuts Lent.objs.length fin n fresh todo env objs=some r→
    ∃a' w' todo' env' objs' ρ',Steps P (lone (b.at a (todo.map iD_)) cs w) (lone {b.at a' todo' with mode:= .returning} cs w')∧a'.defers=[]∧a'.tmps.size=nt∧fin env' objs'=some r∧SRel C Mut Lent w0 ρ' env' objs' a'.tmps w':=by
  intro k
  induction k with
  | zero=> ?_
  | succ k ihk=> ?_
  all_goals
    intro n
    induction n with
    | zero=>intro fresh todo env objs ρ a w _ _ _ _ h;simp [run] at h
    | succ n ih=> ?_
    intro fresh todo env objs ρ a w p hsz hdf S h
    have key:∀{m':Machine},Steps P (lone (b.at a (todo.map iD_)) cs w) m'→(∃a' w' todo' env' objs' ρ',Steps P m' (lone {b.at a' todo' with mode:= .returning} cs w')∧a'.defers=[]∧a'.tmps.size=nt∧fin env' objs'=some r∧SRel C Mut Lent w0 ρ' env' objs' a'.tmps w')→
     ∃a' w' todo' env' objs' ρ',Steps P (lone (b.at a (todo.map iD_)) cs w) (lone {b.at a' todo' with mode:= .returning} cs w')∧a'.defers=[]∧a'.tmps.size=nt∧fin env' objs'=some r∧SRel C Mut Lent w0 ρ' env' objs' a'.tmps w':=
      fun hs ⟨a',w',todo',env',objs',ρ',g1,g2⟩=>⟨a',w',todo',env',objs',ρ',hs.trans g1,g2⟩
    unfold run at h
    split at h
    ·exact ⟨a,w,_,env,objs,ρ, .one step_end,hdf,hsz,h,S⟩
    ·exact key (.one step_inBlock) (ih _ _ _ _ ρ a w p hsz hdf S h)
    ·exact key (.one step_inLoop) (ih _ _ _ _ ρ a w (by exact ⟨p.1,p⟩) hsz hdf S h)
    ·rename_i c l
     obtain ⟨p1,p2⟩:=p
     split at h
     ·exact key (.one step_skip) (ih _ _ _ _ ρ a w p2 hsz hdf S h)
     ·obtain ⟨q1,q2⟩:=p1.seq
      exact key (.one step_seq) (ih _ _ _ _ ρ a w (by exact ⟨q1,q2,p2⟩) hsz hdf S h)
     ·exact key (.one step_block) (ih _ _ _ _ ρ a w (by exact ⟨p1.block,p2⟩) hsz hdf S h)
     ·exact key (.one step_loop) (ih _ _ _ _ ρ a w (by exact ⟨p1.loop,p1.loop,p2⟩) hsz hdf S h)
     ·split at h
      ·rename_i k' hk'
       exact key (.one (step_exit (hI_ hk'))) (ih _ _ _ _ ρ a w (jM_ hk' p2) hsz hdf S h)
      ·cases h
     ·exact ⟨a,w,_,env,objs,ρ, .one step_ret,hdf,hsz,h,S⟩
     ·rename_i q x y
      obtain ⟨q1,q2⟩:=p1.cond
      split at h
      ·rename_i t ht
       have h:=lK_ h
       have hq:=aB_ (H 0).ty S 0 q
       rw [ht] at hq
       have hq:=(aU_ hq).1
       have hset:∀t',t'=t→SRel C Mut Lent w0 ρ (FW_ env q t') objs a.tmps w:=by
         intro t' e;subst e
         cases q with
         | tmp d=>
           refine S.know ?_
           cases hd:a.tmps[d]? with
           | none=>simp [Act.eval,hd,Go.undef] at hq
           | some u=>simp [Act.eval,hd] at hq;subst hq;exact ⟨_,rfl, .lit rfl⟩
         | const v=>exact S
         | global v=>exact S
         | func v=>exact S
       have hst:=step_cond (P:=P) (b:=b) (a:=a) (k:=l.map iD_) (cs:=cs) (w:=w) (x:=x) (y:=y) hq
       cases t with
       | true=>exact key (.one hst) (ih _ (.code x::l) _ _ ρ a w ⟨q1,p2⟩ hsz hdf (hset true rfl) h)
       | false=>exact key (.one hst) (ih _ (.code y::l) _ _ ρ a w ⟨q2,p2⟩ hsz hdf (hset false rfl) h)
      ·cases h
     ·rename_i id ops draw
      have hd:∀o∈ops.toList,∀d,o.dst=some d→d<nt:=by
        have:=p1.1
        simp only [okC,List.all_eq_true] at this
        intro o ho d hdd
        have:=this o ho
        rw [hdd] at this
        exact Nat.blt_eq.mp this |>fun h=>h
      split at h
      ·rename_i slots hc
       have hc:v0_ cuts id=some slots:=by
         revert hc;cases fresh
         ·exact fun h=>h
         ·intro h;cases h
       have h:_=some r:=h
       dsimp only at h
       first
       | (rw [h0] at h;cases h;done)
       | (obtain ⟨n',todo',e1,e2⟩:=h1 k id _ _ r slots hc h
          have e3:=p1.2.2 id (.code (.region id ops draw)::l) (by simp [b1_])
          rw [e1] at e3;cases e3
          obtain ⟨ρ',S',hv⟩:=lB_ (H 0).cod S (wO_ S slots)
          exact ihk n' true _ _ _ ρ' a w ⟨p1,p2⟩ hsz hdf (S'.setEnv (uC_ hv)) e2)
      ·let Q:Exit→Act→World→Prop:=fun e a' w'=>e= .normal∧∃a'' w'' todo' env' objs' ρ',Steps P (lone (b.at a' (l.map iD_)) cs w') (lone {b.at a'' todo' with mode:= .returning} cs w'')∧a''.defers=[]∧a''.tmps.size=nt∧fin env' objs'=some r∧SRel C Mut Lent w0 ρ' env' objs' a''.tmps w''
       have hfin:(Code.region id ops draw).wp P Q a w→∃a' w' todo' env' objs' ρ',Steps P (lone (b.at a ((It.code (.region id ops draw)::l).map iD_)) cs w) (lone {b.at a' todo' with mode:= .returning} cs w')∧a'.defers=[]∧a'.tmps.size=nt∧fin env' objs'=some r∧SRel C Mut Lent w0 ρ' env' objs' a'.tmps w':=by
         intro hw
         obtain ⟨e,a',w',⟨rfl,hQ⟩,harr⟩:=hw b (l.map iD_) cs
         exact key harr hQ
       split at h
       ·exact hfin (wp_region_any hm (wx_ (H _) (HQ _) hd hsz (S.drawn _) h fun env' objs' ρ' a' w' hK S' hz hdf'=>⟨rfl,ih _ _ _ _ ρ' a' w' p2 hz (hdf'.trans hdf) S' hK⟩))
       ·refine hfin (wp_region ?_)
        rw [List.range_eq_range']
        have:=se_ (Q:=Q) (H _) ops.toList 0 env objs ρ a w (all:=ops) (nt:=nt) (fun k=>by simp) hd hsz S h fun env' objs' ρ' a' w' hK S' hz hdf'=>⟨rfl,ih _ _ _ _ ρ' a' w' p2 hz (hdf'.trans hdf) S' hK⟩
        simpa using this
     ·cases h
end
end Km
