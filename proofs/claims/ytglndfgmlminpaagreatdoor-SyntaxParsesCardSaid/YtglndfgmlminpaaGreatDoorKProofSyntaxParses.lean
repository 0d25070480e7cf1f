/-
  The law SyntaxParses: for every input it returns true, and each argument reads afterwards as it read before. No condition.
-/
import Derived.Test.YtglndfgmlminpaaGreatDoorSx51
import Derived.Test.YtglndfgmlminpaaGreatDoorSx50
import Derived.Test.YtglndfgmlminpaaGreatDoorSx36
import Derived.ProofKit
import Derived.OpenShut
import Derived.ChangeOld
import Derived.Below
import Derived.Test.YtglndfgmlminpaaGreatDoorTie
import Derived.Test.YtglndfgmlminpaaGreatDoorCards
import Derived.SevenTiedAt
namespace Go.Proofs.YtglndfgmlminpaaGreatDoor.syntaxParses
open Go.ChangeShapes Go.WideShapes Go.ChangeAt Go.RowKit

theorem own:ownKnob Tryz.prog.godebug=none:=by kernel_rfl
theorem laidOut:laidOutB Tryz.prog=true:=by kernel_rfl

set_option maxRecDepth 100000 in
theorem lifted (os:Os) (started:os.Started) (H:Type) (enc:TypeId×Value→H):
    ReturnsInHanded {} Tryz.checked os 3 .any (fun w args=>(Rows.syntaxParsesSpec.pre enc Tryz.prog Tryz.f3 Rows.syntaxParsesRow.domain false w args∧laidMet Tryz.prog Rows.syntaxParsesRow.laid w)∧sizedMet enc Tryz.prog Tryz.f3 (OpenSpec.ofChange Rows.syntaxParsesSpec) false w args) (Rows.syntaxParsesSpec.post enc Tryz.prog Tryz.f3 false true false false):=by
  refine returnsInHanded_of_change_and (C:=Tryz.checked) (X:=fun w _=>laidMet Tryz.prog Rows.syntaxParsesRow.laid w) (fun _ _ _ hh h=>h.of_heap hh) own started (by kernel_rfl) Tryz.func3
    (ChangeSpec.witness_at (enc:=enc) (C:=Tryz.checked) (os:=os) (X:=fun w _=>laidMet Tryz.prog Rows.syntaxParsesRow.laid w) false (laidWorld os) #[.string ByteArray.empty] 8 rfl (by kernel_rfl) (by kernel_rfl) (by kernel_rfl) (by kernel_rfl) (by kernel_rfl) (laidWorld_met os _)) ?_
  intro W base args ds gs before hval0 hW hcnd hwt hlaid _
  have hinv:ginv W:=ginv_of_laid hlaid
  have hval:∀(j:Nat) t v,Tryz.f3.params[j]?=some t→args[j]?=some v→Value.okWide Tryz.prog W .any base t v:=hval0
  have hW':=hW
  obtain⟨p,q,hA0,hV,rfl,hfz,hnd⟩:=hW
  have hA:DataW.TrodAll enc Tryz.prog W 0 (fun _=>true) true Tryz.f3.params.toList args.toList ds p:=hA0
  rw[Tryz.params3] at hA hval
  obtain⟨v0,vs0,d0,ds0,p0,q0,hargs,rfl,rfl,h0,r0⟩:=trodAll_cons hA
  obtain⟨rfl,rfl,rfl⟩:=trodAll_nil r0
  obtain rfl:args= #[v0]:=by cases args;simp_all
  obtain⟨rfl,rfl⟩:=trodVars_none hV
  have u0:∀q∈DataW.weightsEach Tryz.prog [9] [d0],q≤reachBytes:=fun q hq=>of_decide_eq_true (List.all_eq_true.1 hwt q hq)
  have k0:=h0
  have lt0:∀x∈p0,x.block<W.heap.size:=by obtain⟨m,hm⟩:=k0;exact DataW.trod_lt m _ _ _ hm
  obtain⟨w0,u1⟩:=weights_cons u0
  obtain⟨e0,o0,g0⟩:=read_arg (n:=6) tok (by kernel_rfl) (hval 0 9 v0 rfl rfl) h0 w0
  clear hA0 hval0
  refine((d_parses e0 o0).2 W [v0] hinv (relL_cons g0 relL_nil)).mono fun e W' ⟨v,he,hv,bel⟩=>?_
  subst he
  cases hv
  exact⟨_,rfl,_,_,_,[],_,[],hW',trodAll_mk1 (shut_bool Tryz.underlying4 _),(trodAll_cons_mk (Below.trod laidOut (by kernel_rfl) (of_decide_eq_true (by kernel_rfl)) k0 bel lt0) trodAll_mk0),rfl,bel.frame _,fun h=>by cases h⟩

theorem holds:Rows.SyntaxParsesSaid:=
  OpenClaim.holds_of_wide 3 Tryz.f3 rfl rfl rfl rfl rfl rfl rfl ⟨rfl,rfl,rfl,rfl,rfl⟩ rfl rfl rfl rfl rfl (by kernel_rfl) Tryz.func3 (by kernel_rfl)
    (of_decide_eq_true (by kernel_rfl)) (by unfold Func.isWrapper;rw[if_neg (of_decide_eq_false (by kernel_rfl))];exact⟨rfl,rfl⟩)
    (fun os started H enc _=>lifted os started H enc)

theorem card:Rows.SyntaxParsesCardSaid:=
  Claim7.holds_tied_plain_at .later [] [.data,.data,.data,.sentinel,.sentinel] true (true, "a275d6d6ee98114fe4b24dba962c8fee46eee596be2dc1abf74dd6df2d2d3d6a") true
    holds (fun _ h=>by cases h) (by kernel_rfl) (fun _ h=>by cases h) syntaxParses_row_tie rfl ⟨rfl,rfl⟩ (by kernel_rfl) rfl
    (fun f fn hf hfn=>by
      obtain rfl:f=3:=Option.some.inj ((show Tryz.prog.funcNamed "faas/faaslaw08.SyntaxParses" =some 3 by kernel_rfl).symm.trans hf)|>.symm
      obtain rfl:fn=Tryz.f3:=(Option.some.inj (Tryz.func3.symm.trans hfn)).symm
      exact⟨by kernel_rfl,fun j t ht=>by
        rw[Tryz.params3] at ht
        have hall:∀t∈[9],Tryz.prog.wantsStandIn t=false:=by
          intro t ht
          simp only[List.mem_cons,List.not_mem_nil,or_false] at ht
          obtain rfl:=ht
          kernel_rfl
        exact hall t (by
          rw[←Array.getElem?_toList] at ht
          exact List.mem_of_getElem? ht)⟩)
    (by kernel_rfl)

end Go.Proofs.YtglndfgmlminpaaGreatDoor.syntaxParses
