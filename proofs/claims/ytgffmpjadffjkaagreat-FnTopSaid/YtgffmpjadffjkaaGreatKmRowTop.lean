import Derived.Test.YtgffmpjadffjkaaGreatKyPureTop4
import Derived.Test.YtgffmpjadffjkaaGreatKmSeat
import Derived.Test.YtgffmpjadffjkaaGreatKmFnTop
import Derived.Test.YtgffmpjadffjkaaGreatRows
import Derived.WalkKit
import Derived.ProofKit
import Derived.OpenShut
import Derived.ShutString
import Derived.ChangeOld
import Derived.Carry
import Derived.Below
import Derived.SizedLaws
namespace Go.Proofs.YtgffmpjadffjkaaGreat.fnTop
open Go.ChangeShapes Go.WideShapes Go.ChangeAt Go.RowKit
open Go.ChangeMaps (open_string shut_string)
set_option linter.unusedVariables false
set_option linter.unusedSimpArgs false
theorem own:ownKnob Tryz.prog.godebug=none:=by kernel_rfl
theorem laidOut:laidOutB Tryz.prog=true:=by kernel_rfl
set_option maxRecDepth 100000 in
theorem lifted (os:Os) (started:os.Started) (H:Type) (enc:TypeId×Value→H):
    ReturnsInHanded {} Tryz.checked os 3 .any (Rows.fnTopSpec.pre6 enc Tryz.prog Tryz.f3 Rows.fnTopRow.domain false) (Rows.fnTopSpec.post enc Tryz.prog Tryz.f3 false true false false):=by
  refine returnsInHanded_of_change_sized (C:=Tryz.checked) own started (by kernel_rfl) Tryz.func3
    (ChangeSpec.witness6 (enc:=enc) (C:=Tryz.checked) false ⟨#[], #[.slice none 0 0, .slice none 0 0],[]⟩ 8 (by kernel_rfl) (by kernel_rfl) (by kernel_rfl) (by kernel_rfl)) ?_
  intro W base args ds gs before hval0 hW hcnd hsz0 _
  have hval:∀(j:Nat) t v,Tryz.f3.params[j]? =some t→args[j]? =some v→Value.okWide Tryz.prog W .any base t v:=hval0
  have hW':=hW
  obtain ⟨p,q,hA0,hV,rfl,hfz,hnd⟩:=hW
  have hA:DataW.TrodAll enc Tryz.prog W 0 (fun _=>true) true Tryz.f3.params.toList args.toList ds p:=hA0
  rw [Tryz.params3] at hA hval
  obtain ⟨v0,vs0,d0,ds0,p0,q0,hargs,rfl,rfl,h0,r0⟩:=trodAll_cons hA
  obtain ⟨v1,vs1,d1,ds1,p1,q1,rfl,rfl,rfl,h1,r1⟩:=trodAll_cons r0
  obtain ⟨rfl,rfl,rfl⟩:=trodAll_nil r1
  obtain rfl:args= #[v0,v1]:=by cases args;simp_all
  obtain ⟨rfl,rfl⟩:=trodVars_none hV
  have k0:=h0
  have lt0:∀x∈p0,x.block<W.heap.size:=by obtain ⟨m,hm⟩:=k0;exact DataW.trod_lt m _ _ _ hm
  obtain ⟨b0,l0,c0,rfl⟩:=okWide_slice Tryz.underlying22 (hval 0 22 _ rfl rfl)
  obtain ⟨fu0,hf0⟩:=h0
  obtain ⟨av0,sh0,ce0⟩:=Km.trod_shaped (ρ:=fun _=>⟨0,0,0,Km.noSub⟩) Km.X.tok Km.X.codOk Km.X.fullC fu0 _ _ _ _ (rfl:Km.X.T 22=some _) rfl hf0
  obtain ⟨x0,rfl,w0⟩:=Km.X.sh22 sh0
  have re0:=ce0.2.2 0 _ _ rfl rfl
  have k1:=h1
  have lt1:∀x∈p1,x.block<W.heap.size:=by obtain ⟨m,hm⟩:=k1;exact DataW.trod_lt m _ _ _ hm
  obtain ⟨b1,l1,c1,rfl⟩:=okWide_slice Tryz.underlying22 (hval 1 22 _ rfl rfl)
  obtain ⟨fu1,hf1⟩:=h1
  obtain ⟨av1,sh1,ce1⟩:=Km.trod_shaped (ρ:=fun _=>⟨0,0,0,Km.noSub⟩) Km.X.tok Km.X.codOk Km.X.fullC fu1 _ _ _ _ (rfl:Km.X.T 22=some _) rfl hf1
  obtain ⟨x1,rfl,w1⟩:=Km.X.sh22 sh1
  have re1:=ce1.2.2 0 _ _ rfl rfl
  obtain ⟨k,hk⟩:=Km.X.exact_FnTop x0 x1 w0 w1
  refine ((Km.X.ok_laws_FnTop k).calls (args:=[.inl false .byte x0, .inl false .byte x1]) (r:=true) (Eq.trans (by kernel_rfl) hk) (vals:= #[.slice b0 l0 c0, .slice b1 l1 c1]) (w:=W) rfl (fun j x u hx hu=>by
    match j,hx,hu with
    | 0,hx,hu=>simp at hx hu;subst hx;subst hu;exact re0
    | 1,hx,hu=>simp at hx hu;subst hx;subst hu;exact re1
    | (_+2),hx,_=>simp at hx) (v:= .bool true) rfl).mono fun e W' ⟨he,bel⟩=> ?_
  subst he
  exact ⟨_,rfl,_,_,_,[],_,[],hW',trodAll_mk1 (shut_bool Tryz.underlying4 _),(trodAll_cons_mk (Below.trod laidOut (by kernel_rfl) (of_decide_eq_true (by kernel_rfl)) k0 bel lt0) (trodAll_cons_mk (Below.trod laidOut (by kernel_rfl) (of_decide_eq_true (by kernel_rfl)) k1 bel lt1) trodAll_mk0)),rfl,bel.frame _,fun h=>by cases h⟩
theorem over:Rows.fnTopRow.holds Tryz.pinned (OpenSpec.ofChange Rows.fnTopSpec):=
  OpenClaim.holds_of_wide 3 Tryz.f3 rfl rfl rfl rfl rfl rfl rfl ⟨rfl,rfl,rfl,rfl,rfl⟩ rfl rfl rfl rfl rfl (by kernel_rfl) Tryz.func3 (by kernel_rfl)
    (of_decide_eq_true (by kernel_rfl)) (by unfold Func.isWrapper;first | (rw [if_pos (by decide+kernel)];kernel_rfl) | (rw [if_neg (by decide+kernel)];exact ⟨rfl,rfl⟩))
    (fun os started H enc _=>lifted os started H enc)
theorem proved:Rows.FnTopSaid:=over
#print axioms proved
end Go.Proofs.YtgffmpjadffjkaaGreat.fnTop
namespace Go.Proofs.YtgffmpjadffjkaaGreat
theorem fnTop_holds:Rows.FnTopSaid:=fnTop.proved
end Go.Proofs.YtgffmpjadffjkaaGreat
