import Derived.Test.YtgffmpjadffjkaaGreatDoorKyPureLines3
import Derived.Test.YtgffmpjadffjkaaGreatDoorKmSeat
import Derived.Test.YtgffmpjadffjkaaGreatDoorKmFnLines
import Derived.Test.YtgffmpjadffjkaaGreatDoorCards
import Derived.Test.YtgffmpjadffjkaaGreatDoorTie
import Derived.OpenVars
import Derived.SizedLaws
set_option linter.unusedVariables false
set_option linter.unusedSimpArgs false
namespace Go.Proofs.YtgffmpjadffjkaaGreatDoor.fnLines
open Go.ChangeShapes Go.WideShapes Go.ChangeAt Go.RowKit
theorem own:ownKnob Tryz.prog.godebug=none:=by kernel_rfl
theorem laidOut:laidOutB Tryz.prog=true:=by kernel_rfl
set_option maxRecDepth 100000 in
theorem lifted (os:Os) (started:os.Started) (H:Type) (enc:TypeId×Value→H):
    ReturnsInHanded {} Tryz.checked os 4 .any (fun w args=>(Rows.fnLinesSpec.pre enc Tryz.prog Tryz.f4 [] false w args∧laidMetH Tryz.prog Km.X.laid8 w)∧sizedMet enc Tryz.prog Tryz.f4 (OpenSpec.ofChange Rows.fnLinesSpec) false w args)
      (Rows.fnLinesSpec.post enc Tryz.prog Tryz.f4 false true false false):=by
  refine Km.X.wrap (C:=Tryz.checked) (X:=fun w _=>laidMetH Tryz.prog Km.X.laid8 w) (fun _ _ _ hh h=>h.of_heap hh) own started (by kernel_rfl) Tryz.func4
    (ChangeSpec.witness_shaped (enc:=enc) (C:=Tryz.checked) (os:=os) (X:=fun w _=>laidMetH Tryz.prog Km.X.laid8 w) false (Km.X.witW os) #[.slice none 0 0] 8 (Km.X.witW_os os) (Km.X.witW_shaped os _) (by kernel_rfl) (by kernel_rfl) (by kernel_rfl) (Km.X.witW_met os _)) ?_
  intro W base args ds gs before hval0 hW hL hsh
  have hval:∀(j:Nat) t v,Tryz.f4.params[j]? =some t→args[j]? =some v→Value.okWide Tryz.prog W .any base t v:=hval0
  have hW':=hW
  obtain ⟨p,q,hA0,hV,rfl,hfz,hnd⟩:=hW
  have hA:DataW.TrodAll enc Tryz.prog W 0 (fun _=>true) true Tryz.f4.params.toList args.toList ds p:=hA0
  rw [Tryz.params4] at hA hval
  obtain ⟨v0,vs0,d0,ds0,p0,q0,hargs,rfl,rfl,h0,r0⟩:=trodAll_cons hA
  obtain ⟨rfl,rfl,rfl⟩:=trodAll_nil r0
  obtain rfl:args= #[v0]:=by cases args;simp_all
  obtain ⟨g1,t1,cs1,f1,dv,pv,rfl,_⟩:=trodVars_one hV
  have k0:=h0
  have lt0:∀x∈p0,x.block<W.heap.size:=by obtain ⟨m,hm⟩:=k0;exact DataW.trod_lt m _ _ _ hm
  obtain ⟨b0,l0,c0,rfl⟩:=okWide_slice Tryz.underlying24 (hval 0 24 _ rfl rfl)
  obtain ⟨B,wk,⟨es,clock,hB⟩,wm,wp,wl,n0,n1,n6,nB⟩:=Km.X.of_world hL hsh
  letI G:Km.X.Glob:=⟨W,B⟩
  haveI:Km.X.GlobFacts:=⟨wk,wm,wp,wl⟩
  have nob:∀b,Km.X.gbs b→Km.X.noByte W b:=fun b hb=>by
    rcases hb with rfl | rfl | rfl | rfl
    ·exact n0
    ·exact n1
    ·exact n6
    ·exact nB
  have gp:Km.X.cod.gp W:=fun b _=>rfl
  have hlt:∀b,Km.X.cod.gb b→b<W.heap.size:=fun b hb=>(nob b hb).1
  obtain ⟨fu0,hf0⟩:=h0
  obtain ⟨av0,sh0,ce0⟩:=Km.trod_shaped (ρ:=fun _=>⟨0,0,0,Km.noSub⟩) Km.X.tokR Km.X.codOk Km.X.fullR fu0 _ _ _ _ (rfl:Km.X.TR 24=some _) rfl hf0
  obtain ⟨x0,rfl,w0⟩:=Km.X.shR24 sh0
  have re0:=Km.X.bytes_apart nob (ce0.2.2 0 _ _ rfl rfl)
  obtain ⟨k,hk⟩:=Km.X.exact_FnLines x0 w0.2
  have calls:=(Km.X.ok_laws_FnLines k).calls (args:=[.inl false .byte x0]) (r:=true) (Eq.trans (by kernel_rfl) hk) (vals:= #[.slice b0 l0 c0]) (w:=W) gp hlt rfl (fun j x u hx hu=>by
    match j,hx,hu with
    | 0,hx,hu=>simp at hx hu;subst hx;subst hu;exact re0
    | (_+1),hx,_=>simp at hx) (v:= .bool true) rfl
  refine calls.mono fun e W' ⟨he,bel⟩=> ?_
  subst he
  exact ⟨_,rfl,_,_,_,[],_,_,hW',trodAll_mk1 (shut_bool Tryz.underlying4 _),(trodAll_cons_mk (Below.trod laidOut (by kernel_rfl) (of_decide_eq_true (by kernel_rfl)) k0 bel lt0) trodAll_mk0),Below.trodVars laidOut bel (by kernel_rfl) hV,bel.frame _,fun h=>by cases h⟩
theorem row_holds:Rows.FnLinesSaid:=
  OpenClaim.holds_of_wide 4 Tryz.f4 rfl rfl rfl rfl rfl rfl rfl ⟨rfl,rfl,rfl,rfl,rfl⟩ rfl rfl rfl rfl rfl (by kernel_rfl) Tryz.func4 (by kernel_rfl)
    (of_decide_eq_true (by kernel_rfl)) (by unfold Func.isWrapper;first | (rw [if_pos (by decide+kernel)];kernel_rfl) | (rw [if_neg (by decide+kernel)];exact ⟨rfl,rfl⟩))
    (fun os started H enc _=>lifted os started H enc)
theorem proved:Rows.FnLinesCardSaid:=
  Claim7.holds_tied_plain_at .later [] [.data, .data, .data, .data, .sentinel, .sentinel, .mapped, .pinned] true (true, "7ad8d360b7fe55e8d1ef900bae8b949bd7342503dba3d4c986b9b3f5392f9eda") true
    row_holds (fun _ h=>by cases h) (by kernel_rfl) (fun _ h=>by cases h) fnLines_row_tie rfl ⟨rfl,rfl⟩ (by kernel_rfl) rfl
    (fun f fn hf hfn=>by
      obtain rfl : f = 4 := Option.some.inj ((show Tryz.prog.funcNamed "loop.example/kilnwind/laws.FnLines" = some 4 by kernel_rfl).symm.trans hf) |>.symm
      obtain rfl:fn=Tryz.f4:=(Option.some.inj (Tryz.func4.symm.trans hfn)).symm
      exact ⟨by kernel_rfl,fun j t ht=>by
        rw [Tryz.params4] at ht
        have hm:t∈[24]:=by simpa using Array.mem_of_getElem? ht
        have hall:([24].all fun u=> !Tryz.prog.wantsStandIn u)=true:=by kernel_rfl
        exact (show Tryz.prog.wantsStandIn t=false by simpa using List.all_eq_true.1 hall t hm)⟩)
    (by kernel_rfl)
#print axioms proved
end Go.Proofs.YtgffmpjadffjkaaGreatDoor.fnLines
namespace Go.Proofs.YtgffmpjadffjkaaGreatDoor
theorem fnLines_holds:Rows.FnLinesCardSaid:=fnLines.proved
end Go.Proofs.YtgffmpjadffjkaaGreatDoor
