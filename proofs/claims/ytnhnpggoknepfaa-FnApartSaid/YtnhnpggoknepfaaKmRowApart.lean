import Derived.Test.YtnhnpggoknepfaaKyPureApart4
import Derived.Test.YtnhnpggoknepfaaKmSeat
import Derived.Test.YtnhnpggoknepfaaKmFnApart
import Derived.Test.YtnhnpggoknepfaaRows
import Derived.WalkKit
import Derived.ProofKit
import Derived.OpenShut
import Derived.ShutString
import Derived.ChangeOld
import Derived.Carry
import Derived.Below
import Derived.SizedLaws
namespace Go.Proofs.Ytnhnpggoknepfaa.fnApart
open Go.ChangeShapes Go.WideShapes Go.ChangeAt Go.RowKit
open Go.ChangeMaps (open_string shut_string)
set_option linter.unusedVariables false
set_option linter.unusedSimpArgs false
theorem own:ownKnob Try.prog.godebug=none:=by kernel_rfl
theorem laidOut:laidOutB Try.prog=true:=by kernel_rfl
set_option maxRecDepth 100000 in
theorem lifted (os:Os) (started:os.Started) (H:Type) (enc:TypeId×Value→H):
    ReturnsInHanded {} Try.checked os 7 .any (Rows.fnApartSpec.pre6 enc Try.prog Try.f7 Rows.fnApartRow.domain false) (Rows.fnApartSpec.post enc Try.prog Try.f7 false true false false):=by
  refine returnsInHanded_of_change_sized (C:=Try.checked) own started (by kernel_rfl) Try.func7
    (ChangeSpec.witness6 (enc:=enc) (C:=Try.checked) false ⟨#[], #[.slice none 0 0],[]⟩ 8 (by kernel_rfl) (by kernel_rfl) (by kernel_rfl) (by kernel_rfl)) ?_
  intro W base args ds gs before hval0 hW hcnd hsz0 _
  have hval:∀(j:Nat) t v,Try.f7.params[j]? =some t→args[j]? =some v→Value.okWide Try.prog W .any base t v:=hval0
  have hW':=hW
  obtain ⟨p,q,hA0,hV,rfl,hfz,hnd⟩:=hW
  have hA:DataW.TrodAll enc Try.prog W 0 (fun _=>true) true Try.f7.params.toList args.toList ds p:=hA0
  rw [Try.params7] at hA hval
  obtain ⟨v0,vs0,d0,ds0,p0,q0,hargs,rfl,rfl,h0,r0⟩:=trodAll_cons hA
  obtain ⟨rfl,rfl,rfl⟩:=trodAll_nil r0
  obtain rfl:args= #[v0]:=by cases args;simp_all
  obtain ⟨rfl,rfl⟩:=trodVars_none hV
  have k0:=h0
  have lt0:∀x∈p0,x.block<W.heap.size:=by obtain ⟨m,hm⟩:=k0;exact DataW.trod_lt m _ _ _ hm
  obtain ⟨b0,l0,c0,rfl⟩:=okWide_slice Try.underlying55 (hval 0 55 _ rfl rfl)
  obtain ⟨fu0,hf0⟩:=h0
  obtain ⟨av0,sh0,ce0⟩:=Km.trod_shaped (ρ:=fun _=>⟨0,0,0,Km.noSub⟩) Km.X.tok Km.X.codOk Km.X.fullC fu0 _ _ _ _ (rfl:Km.X.T 55=some _) rfl hf0
  obtain ⟨x0,rfl,w0⟩:=Km.X.sh55 sh0
  have re0:=ce0.2.2 0 _ _ rfl rfl
  obtain ⟨k,hk⟩:=Km.X.exact_FnApart x0 w0
  refine ((Km.X.ok_laws_FnApart k).calls (args:=[.inl false .byte x0]) (r:=true) (Eq.trans (by kernel_rfl) hk) (vals:= #[.slice b0 l0 c0]) (w:=W) rfl (fun j x u hx hu=>by
    match j,hx,hu with
    | 0,hx,hu=>simp at hx hu;subst hx;subst hu;exact re0
    | (_+1),hx,_=>simp at hx) (v:= .bool true) rfl).mono fun e W' ⟨he,bel⟩=> ?_
  subst he
  exact ⟨_,rfl,_,_,_,[],_,[],hW',trodAll_mk1 (shut_bool Try.underlying4 _),(trodAll_cons_mk (Below.trod laidOut (by kernel_rfl) (of_decide_eq_true (by kernel_rfl)) k0 bel lt0) trodAll_mk0),rfl,bel.frame _,fun h=>by cases h⟩
theorem over:Rows.fnApartRow.holds Try.pinned (OpenSpec.ofChange Rows.fnApartSpec):=
  OpenClaim.holds_of_wide 7 Try.f7 rfl rfl rfl rfl rfl rfl rfl ⟨rfl,rfl,rfl,rfl,rfl⟩ rfl rfl rfl rfl rfl (by kernel_rfl) Try.func7 (by kernel_rfl)
    (of_decide_eq_true (by kernel_rfl)) (by unfold Func.isWrapper;first | (rw [if_pos (by decide+kernel)];kernel_rfl) | (rw [if_neg (by decide+kernel)];exact ⟨rfl,rfl⟩))
    (fun os started H enc _=>lifted os started H enc)
theorem proved:Rows.FnApartSaid:=over
#print axioms proved
end Go.Proofs.Ytnhnpggoknepfaa.fnApart
namespace Go.Proofs.Ytnhnpggoknepfaa
theorem fnApart_holds:Rows.FnApartSaid:=fnApart.proved
end Go.Proofs.Ytnhnpggoknepfaa
