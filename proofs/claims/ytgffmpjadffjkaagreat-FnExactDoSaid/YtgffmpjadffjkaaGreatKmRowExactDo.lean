import Derived.Test.YtgffmpjadffjkaaGreatKyPureExactDo2
import Derived.Test.YtgffmpjadffjkaaGreatKmSeat
import Derived.Test.YtgffmpjadffjkaaGreatKmFnExactDo
import Derived.Test.YtgffmpjadffjkaaGreatRows
import Derived.WalkKit
import Derived.ProofKit
import Derived.OpenShut
import Derived.ShutString
import Derived.ChangeOld
import Derived.Carry
import Derived.Below
import Derived.SizedLaws
namespace Go.Proofs.YtgffmpjadffjkaaGreat.fnExactDo
open Go.ChangeShapes Go.WideShapes Go.ChangeAt Go.RowKit
open Go.ChangeMaps (open_string shut_string)
set_option linter.unusedVariables false
set_option linter.unusedSimpArgs false
theorem own:ownKnob Tryz.prog.godebug=none:=by kernel_rfl
theorem laidOut:laidOutB Tryz.prog=true:=by kernel_rfl
set_option maxRecDepth 100000 in
theorem lifted (os:Os) (started:os.Started) (H:Type) (enc:TypeId×Value→H):
    ReturnsInHanded {} Tryz.checked os 5 .any (Rows.fnExactDoSpec.pre6 enc Tryz.prog Tryz.f5 Rows.fnExactDoRow.domain false) (Rows.fnExactDoSpec.post enc Tryz.prog Tryz.f5 false true false false):=by
  refine returnsInHanded_of_change_sized (C:=Tryz.checked) own started (by kernel_rfl) Tryz.func5
    (ChangeSpec.witness6 (enc:=enc) (C:=Tryz.checked) false ⟨#[], #[.agg #[.string ByteArray.empty, .int .i64 0, .slice none 0 0, .slice none 0 0, .string ByteArray.empty, .slice none 0 0, .slice none 0 0], .agg #[.int .i64 0, .int .i64 0, .int .i64 0, .int .i64 0, .string ByteArray.empty]],[]⟩ 8 (by kernel_rfl) (by kernel_rfl) (by kernel_rfl) (by kernel_rfl)) ?_
  intro W base args ds gs before hval0 hW hcnd hsz0 _
  have hval:∀(j:Nat) t v,Tryz.f5.params[j]? =some t→args[j]? =some v→Value.okWide Tryz.prog W .any base t v:=hval0
  have hW':=hW
  obtain ⟨p,q,hA0,hV,rfl,hfz,hnd⟩:=hW
  have hA:DataW.TrodAll enc Tryz.prog W 0 (fun _=>true) true Tryz.f5.params.toList args.toList ds p:=hA0
  rw [Tryz.params5] at hA hval
  obtain ⟨v0,vs0,d0,ds0,p0,q0,hargs,rfl,rfl,h0,r0⟩:=trodAll_cons hA
  obtain ⟨v1,vs1,d1,ds1,p1,q1,rfl,rfl,rfl,h1,r1⟩:=trodAll_cons r0
  obtain ⟨rfl,rfl,rfl⟩:=trodAll_nil r1
  obtain rfl:args= #[v0,v1]:=by cases args;simp_all
  obtain ⟨rfl,rfl⟩:=trodVars_none hV
  have k0:=h0
  have lt0:∀x∈p0,x.block<W.heap.size:=by obtain ⟨m,hm⟩:=k0;exact DataW.trod_lt m _ _ _ hm
  obtain ⟨b0,rfl,_⟩:=okWide_struct Tryz.underlying45 (hval 0 45 _ rfl rfl)
  obtain ⟨fu0,hf0⟩:=h0
  obtain ⟨av0,sh0,ce0⟩:=Km.trod_shaped (ρ:=fun _=>⟨0,0,0,Km.noSub⟩) Km.X.tok Km.X.codOk Km.X.fullC fu0 _ _ _ _ (rfl:Km.X.T 45=some _) rfl hf0
  obtain ⟨x0,rfl,w0⟩:=Km.X.sh45 sh0
  have re0:=ce0.agg
  rw [show (Value.agg b0).cells.toList.toArray=b0 by simp [Value.cells]] at re0
  have k1:=h1
  have lt1:∀x∈p1,x.block<W.heap.size:=by obtain ⟨m,hm⟩:=k1;exact DataW.trod_lt m _ _ _ hm
  obtain ⟨b1,rfl,_⟩:=okWide_struct Tryz.underlying51 (hval 1 51 _ rfl rfl)
  obtain ⟨fu1,hf1⟩:=h1
  obtain ⟨av1,sh1,ce1⟩:=Km.trod_shaped (ρ:=fun _=>⟨0,0,0,Km.noSub⟩) Km.X.tok Km.X.codOk Km.X.fullC fu1 _ _ _ _ (rfl:Km.X.T 51=some _) rfl hf1
  obtain ⟨x1,rfl,w1⟩:=Km.X.sh51 sh1
  have re1:=ce1.agg
  rw [show (Value.agg b1).cells.toList.toArray=b1 by simp [Value.cells]] at re1
  obtain ⟨k,hk⟩:=Km.X.exact_FnExactDo x0 x1 w0 w1
  refine ((Km.X.ok_laws_FnExactDo k).calls (args:=[.agg [.lit (.string x0.Key), .lit (.int .i64 x0.Width), .inl false .end x0.Ends, .inl false .parcel x0.Flight, .lit (.string x0.Forged), .inl false .record x0.Given, .inl false .record x0.Taken], .agg [.lit (.int .i64 x1.Kind), .lit (.int .i64 x1.A), .lit (.int .i64 x1.B), .lit (.int .i64 x1.C), .lit (.string x1.Text)]]) (r:=true) (Eq.trans (by kernel_rfl) hk) (vals:= #[.agg b0, .agg b1]) (w:=W) rfl (fun j x u hx hu=>by
    match j,hx,hu with
    | 0,hx,hu=>simp at hx hu;subst hx;subst hu;exact re0
    | 1,hx,hu=>simp at hx hu;subst hx;subst hu;exact re1
    | (_+2),hx,_=>simp at hx) (v:= .bool true) rfl).mono fun e W' ⟨he,bel⟩=> ?_
  subst he
  exact ⟨_,rfl,_,_,_,[],_,[],hW',trodAll_mk1 (shut_bool Tryz.underlying4 _),(trodAll_cons_mk (Below.trod laidOut (by kernel_rfl) (of_decide_eq_true (by kernel_rfl)) k0 bel lt0) (trodAll_cons_mk (Below.trod laidOut (by kernel_rfl) (of_decide_eq_true (by kernel_rfl)) k1 bel lt1) trodAll_mk0)),rfl,bel.frame _,fun h=>by cases h⟩
theorem over:Rows.fnExactDoRow.holds Tryz.pinned (OpenSpec.ofChange Rows.fnExactDoSpec):=
  OpenClaim.holds_of_wide 5 Tryz.f5 rfl rfl rfl rfl rfl rfl rfl ⟨rfl,rfl,rfl,rfl,rfl⟩ rfl rfl rfl rfl rfl (by kernel_rfl) Tryz.func5 (by kernel_rfl)
    (of_decide_eq_true (by kernel_rfl)) (by unfold Func.isWrapper;first | (rw [if_pos (by decide+kernel)];kernel_rfl) | (rw [if_neg (by decide+kernel)];exact ⟨rfl,rfl⟩))
    (fun os started H enc _=>lifted os started H enc)
theorem proved:Rows.FnExactDoSaid:=over
#print axioms proved
end Go.Proofs.YtgffmpjadffjkaaGreat.fnExactDo
namespace Go.Proofs.YtgffmpjadffjkaaGreat
theorem fnExactDo_holds:Rows.FnExactDoSaid:=fnExactDo.proved
end Go.Proofs.YtgffmpjadffjkaaGreat
