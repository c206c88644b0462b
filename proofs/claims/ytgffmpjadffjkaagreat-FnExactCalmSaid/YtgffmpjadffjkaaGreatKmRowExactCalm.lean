import Derived.Test.YtgffmpjadffjkaaGreatKyPureExactCalm2
import Derived.Test.YtgffmpjadffjkaaGreatKmSeat
import Derived.Test.YtgffmpjadffjkaaGreatKmFnExactCalm
import Derived.Test.YtgffmpjadffjkaaGreatRows
import Derived.WalkKit
import Derived.ProofKit
import Derived.OpenShut
import Derived.ShutString
import Derived.ChangeOld
import Derived.Carry
import Derived.Below
import Derived.SizedLaws
namespace Go.Proofs.YtgffmpjadffjkaaGreat.fnExactCalm
open Go.ChangeShapes Go.WideShapes Go.ChangeAt Go.RowKit
open Go.ChangeMaps (open_string shut_string)
set_option linter.unusedVariables false
set_option linter.unusedSimpArgs false
theorem own:ownKnob Tryz.prog.godebug=none:=by kernel_rfl
theorem laidOut:laidOutB Tryz.prog=true:=by kernel_rfl
set_option maxRecDepth 100000 in
theorem lifted (os:Os) (started:os.Started) (H:Type) (enc:TypeId×Value→H):
    ReturnsInHanded {} Tryz.checked os 4 .any (Rows.fnExactCalmSpec.pre6 enc Tryz.prog Tryz.f4 Rows.fnExactCalmRow.domain false) (Rows.fnExactCalmSpec.post enc Tryz.prog Tryz.f4 false true false false):=by
  refine returnsInHanded_of_change_sized (C:=Tryz.checked) own started (by kernel_rfl) Tryz.func4
    (ChangeSpec.witness6 (enc:=enc) (C:=Tryz.checked) false ⟨#[], #[.agg #[.string ByteArray.empty, .int .i64 0, .slice none 0 0, .slice none 0 0, .string ByteArray.empty, .slice none 0 0, .slice none 0 0], .int .i64 0, .int .i64 0],[]⟩ 8 (by kernel_rfl) (by kernel_rfl) (by kernel_rfl) (by kernel_rfl)) ?_
  intro W base args ds gs before hval0 hW hcnd hsz0 _
  have hval:∀(j:Nat) t v,Tryz.f4.params[j]? =some t→args[j]? =some v→Value.okWide Tryz.prog W .any base t v:=hval0
  have hW':=hW
  obtain ⟨p,q,hA0,hV,rfl,hfz,hnd⟩:=hW
  have hA:DataW.TrodAll enc Tryz.prog W 0 (fun _=>true) true Tryz.f4.params.toList args.toList ds p:=hA0
  rw [Tryz.params4] at hA hval
  obtain ⟨v0,vs0,d0,ds0,p0,q0,hargs,rfl,rfl,h0,r0⟩:=trodAll_cons hA
  obtain ⟨v1,vs1,d1,ds1,p1,q1,rfl,rfl,rfl,h1,r1⟩:=trodAll_cons r0
  obtain ⟨v2,vs2,d2,ds2,p2,q2,rfl,rfl,rfl,h2,r2⟩:=trodAll_cons r1
  obtain ⟨rfl,rfl,rfl⟩:=trodAll_nil r2
  obtain rfl:args= #[v0,v1,v2]:=by cases args;simp_all
  obtain ⟨rfl,rfl⟩:=trodVars_none hV
  have k0:=h0
  have lt0:∀x∈p0,x.block<W.heap.size:=by obtain ⟨m,hm⟩:=k0;exact DataW.trod_lt m _ _ _ hm
  obtain ⟨b0,rfl,_⟩:=okWide_struct Tryz.underlying45 (hval 0 45 _ rfl rfl)
  obtain ⟨fu0,hf0⟩:=h0
  obtain ⟨av0,sh0,ce0⟩:=Km.trod_shaped (ρ:=fun _=>⟨0,0,0,Km.noSub⟩) Km.X.tok Km.X.codOk Km.X.fullC fu0 _ _ _ _ (rfl:Km.X.T 45=some _) rfl hf0
  obtain ⟨x0,rfl,w0⟩:=Km.X.sh45 sh0
  have re0:=ce0.agg
  rw [show (Value.agg b0).cells.toList.toArray=b0 by simp [Value.cells]] at re0
  have k1:=h1
  have lt1:∀x∈p1,x.block<W.heap.size:=by obtain ⟨m,hm⟩:=k1;exact DataW.trod_lt m _ _ _ hm
  obtain ⟨b1,rfl⟩:=okWide_int Tryz.underlying3 (hval 1 3 _ rfl rfl)
  obtain ⟨fu1,hf1⟩:=h1
  obtain ⟨av1,sh1,ce1⟩:=Km.trod_shaped (ρ:=fun _=>⟨0,0,0,Km.noSub⟩) Km.X.tok Km.X.codOk Km.X.fullC fu1 _ _ _ _ (rfl:Km.X.T 3=some _) rfl hf1
  obtain ⟨x1,rfl,w1⟩:=Km.X.sh3 sh1
  have re1:=ce1.2.2 0 _ _ rfl rfl
  have k2:=h2
  have lt2:∀x∈p2,x.block<W.heap.size:=by obtain ⟨m,hm⟩:=k2;exact DataW.trod_lt m _ _ _ hm
  obtain ⟨b2,rfl⟩:=okWide_int Tryz.underlying3 (hval 2 3 _ rfl rfl)
  obtain ⟨fu2,hf2⟩:=h2
  obtain ⟨av2,sh2,ce2⟩:=Km.trod_shaped (ρ:=fun _=>⟨0,0,0,Km.noSub⟩) Km.X.tok Km.X.codOk Km.X.fullC fu2 _ _ _ _ (rfl:Km.X.T 3=some _) rfl hf2
  obtain ⟨x2,rfl,w2⟩:=Km.X.sh3 sh2
  have re2:=ce2.2.2 0 _ _ rfl rfl
  obtain ⟨k,hk⟩:=Km.X.exact_FnExactCalm x0 x1 x2 w0 w1 w2
  refine ((Km.X.ok_laws_FnExactCalm k).calls (args:=[.agg [.lit (.string x0.Key), .lit (.int .i64 x0.Width), .inl false .end x0.Ends, .inl false .parcel x0.Flight, .lit (.string x0.Forged), .inl false .record x0.Given, .inl false .record x0.Taken], .lit (.int .i64 x1), .lit (.int .i64 x2)]) (r:=true) (Eq.trans (by kernel_rfl) hk) (vals:= #[.agg b0, .int .i64 b1, .int .i64 b2]) (w:=W) rfl (fun j x u hx hu=>by
    match j,hx,hu with
    | 0,hx,hu=>simp at hx hu;subst hx;subst hu;exact re0
    | 1,hx,hu=>simp at hx hu;subst hx;subst hu;exact re1
    | 2,hx,hu=>simp at hx hu;subst hx;subst hu;exact re2
    | (_+3),hx,_=>simp at hx) (v:= .bool true) rfl).mono fun e W' ⟨he,bel⟩=> ?_
  subst he
  exact ⟨_,rfl,_,_,_,[],_,[],hW',trodAll_mk1 (shut_bool Tryz.underlying4 _),(trodAll_cons_mk (Below.trod laidOut (by kernel_rfl) (of_decide_eq_true (by kernel_rfl)) k0 bel lt0) (trodAll_cons_mk (Below.trod laidOut (by kernel_rfl) (of_decide_eq_true (by kernel_rfl)) k1 bel lt1) (trodAll_cons_mk (Below.trod laidOut (by kernel_rfl) (of_decide_eq_true (by kernel_rfl)) k2 bel lt2) trodAll_mk0))),rfl,bel.frame _,fun h=>by cases h⟩
theorem over:Rows.fnExactCalmRow.holds Tryz.pinned (OpenSpec.ofChange Rows.fnExactCalmSpec):=
  OpenClaim.holds_of_wide 4 Tryz.f4 rfl rfl rfl rfl rfl rfl rfl ⟨rfl,rfl,rfl,rfl,rfl⟩ rfl rfl rfl rfl rfl (by kernel_rfl) Tryz.func4 (by kernel_rfl)
    (of_decide_eq_true (by kernel_rfl)) (by unfold Func.isWrapper;first | (rw [if_pos (by decide+kernel)];kernel_rfl) | (rw [if_neg (by decide+kernel)];exact ⟨rfl,rfl⟩))
    (fun os started H enc _=>lifted os started H enc)
theorem proved:Rows.FnExactCalmSaid:=over
#print axioms proved
end Go.Proofs.YtgffmpjadffjkaaGreat.fnExactCalm
namespace Go.Proofs.YtgffmpjadffjkaaGreat
theorem fnExactCalm_holds:Rows.FnExactCalmSaid:=fnExactCalm.proved
end Go.Proofs.YtgffmpjadffjkaaGreat
