/- Texts joined by pack.py: XBdI XSxGo XBdA XSxCn XSxIn XBuB XBuF XSxCp -/
import Derived.Test.YtdccglkagfdooaaGreatDoorBz27
import Derived.Test.YtdccglkagfdooaaGreatDoorBz39
import Derived.Test.YtdccglkagfdooaaGreatDoorBz13
import Derived.ScopeJumps
import Derived.Test.YtdccglkagfdooaaGreatDoorBz25
import Derived.Test.YtdccglkagfdooaaGreatDoorBz14
import Derived.Test.YtdccglkagfdooaaGreatDoorBz16
import Derived.Test.YtdccglkagfdooaaGreatDoorBz26
import Derived.Test.YtdccglkagfdooaaGreatDoorBz12
import Derived.Test.YtdccglkagfdooaaGreatDoorBz15
set_option maxHeartbeats 16000000
set_option maxRecDepth 100000
namespace Go.Proofs.YtdccglkagfdooaaGreatDoor
open Go.RowKit
theorem ex_parse:parseP sourA=(exP,0,0):=by kernel_rfl
theorem ex_ok:PgOk exP∧PgS exP:=by
 have:=parse_s (s:=sourA) (by rw[ex_parse])
 rwa [ex_parse] at this
abbrev exSt:List Int×List Int×Int×Int:=([0,-1,-1],[1],0,0)
theorem ex_study:studyP (checkP exP) exP=exSt:=by kernel_rfl
theorem x_exStudy:DCalls Tryz.prog 66 [exP.V] (studyV exSt):=by
 have h:=x_study exP ex_ok.2 _ (x_check exP ex_ok.1) fun h=>x_walkF exP ex_ok.2 (check_ord h)
 rwa [ex_study] at h
theorem x_exSlots:DCalls Tryz.prog 63 [exP.V] (.tu [intsV [0,-1,-1],int 0]):=by
 refine sx Tryz.func63 (by kernel_rfl) ?_
 conv=>whnf
 refine⟨_,x_exStudy,?_⟩
 (conv=>whnf)<;>rfl
theorem x_exLocals:DCalls Tryz.prog 44 [exP.V,int 0] (.tu [int 1,int 0]):=by
 refine sx Tryz.func44 (by kernel_rfl) ?_
 conv=>whnf
 refine⟨_,x_exStudy,?_⟩
 repeat((conv=>whnf);first|refine known true rfl ?_|refine known false rfl ?_|refine⟨by decide,_,rfl,?_⟩)
 (conv=>whnf)<;>rfl
theorem gh_flag {m:List (Option Bk)} {n k E sz:Nat} {xs:List (List D)} (hm:m[n]?=some (some (.row k E sz true xs))):GhM m (m.set n (some (.row k E sz false xs))):=by
 intro B w0 N S t a w hs
 refine⟨N,S,⟨hs.low,hs.nodef,hs.tmps,fun i b hi=>?_,fun i hi=>?_,hs.apart,hs.data,hs.fresh,hs.own,hs.base,hs.old,hs.lent,hs.more,hs.stay⟩,fun _ _ h=>h⟩
 ·by_cases e:i=n
  ·subst e
   rw[List.getElem?_set_self (lt_of_get hm)] at hi
   cases hi
   obtain⟨v,us,h1,h2,h3,h4,h5,h6⟩:=hs.blk i _ hm
   exact⟨v,us,h1,h2,h3,h4,fun p q d hd=>by
    obtain⟨u,e1,e2⟩:=h5 p q d hd
    exact⟨u,e1,e2.mono (fun g hg=>(hs.fresh g hg).1) fun _ _=>rfl⟩,fun h=>by cases h⟩
  ·rw[List.getElem?_set_ne (Ne.symm e)] at hi;exact hs.blk i b hi
 ·refine hs.non i fun b hb=>?_
  by_cases e:i=n
  ·subst e;exact hi _ (List.getElem?_set_self (lt_of_get hm))
  ·exact hi b (by rw[List.getElem?_set_ne (Ne.symm e)];exact hb)
theorem gh_flagB {m:List (Option Bk)} {n i sz:Nat} {cs:List V} {bt:Option Nat} {xs:List (List D)} (hm:m[n]?=some (some (.box cs bt))) (hi:cs[i]?=some (.sl true sz xs)):GhM m (m.set n (some (.box (cs.set i (.sl false sz xs)) bt))):=by
 intro B w0 N S t a w hs
 refine⟨N,S,⟨hs.low,hs.nodef,hs.tmps,fun j b hj=>?_,fun j hj=>?_,hs.apart,hs.data,hs.fresh,hs.own,hs.base,hs.old,hs.lent,hs.more,hs.stay⟩,fun _ _ h=>h⟩
 ·by_cases e:j=n
  ·subst e
   rw[List.getElem?_set_self (lt_of_get hm)] at hj
   cases hj
   obtain⟨g,ty,us,b1,b2,b3,b4⟩:=hs.blk j _ hm
   refine⟨g,ty,us,b1,b2,by simpa using b3,fun q v hv=>?_⟩
   rw[List.getElem?_set] at hv
   split at hv
   ·rename_i hij
    subst hij
    split at hv
    ·cases hv
     have h4:=b4 i _ hi
     generalize us.getD i undef=u at h4
     cases h4 with
     |sl _ _ _ _ h=>exact .sl _ _ _ _ (h.mono (fun g hg=>(hs.fresh g hg).1) fun _ _=>rfl)
    ·cases hv
   ·exact b4 q v hv
  ·rw[List.getElem?_set_ne (Ne.symm e)] at hj;exact hs.blk j b hj
 ·refine hs.non j fun b hb=>?_
  by_cases e:j=n
  ·subst e;exact hj _ (List.getElem?_set_self (lt_of_get hm))
  ·exact hj b (by rw[List.getElem?_set_ne (Ne.symm e)];exact hb)
theorem x_start:MCalls Tryz.prog 41 [.ag [.sl false 5 (exP.nodes.map ndD),.sl false 3 (exP.funcs.map fcD)],int 0] [] (.tu [.bx 0 0,int 0]) [.box [.sl false 5 (exP.nodes.map ndD),.sl false 3 (exP.funcs.map fcD),.sl false 1 ([0,-1,-1].map intD),int 0,.ow 1 0],.row 0 115 4 false []]:=by
 refine msxg [] Tryz.func41 (by kernel_rfl) (by kernel_rfl) ?_
 conv=>whnf
 refine⟨_,x_exSlots,?_⟩
 conv=>whnf
 refine known false rfl ?_
 conv=>whnf
 refine⟨_,GhM.gh ((gh_nilR (n:=20) (d:=40) (i:=4) (E:=115) (sz:=4) rfl rfl rfl (by decide)).trans ((gh_flag (n:=40) rfl).trans (gh_flagB (n:=20) (i:=2) rfl rfl))),?_⟩
 exact⟨rfl,rfl,rfl⟩
end Go.Proofs.YtdccglkagfdooaaGreatDoor
namespace Go.Proofs.YtdccglkagfdooaaGreatDoor
open Go.RowKit
def firstLabel:Code→Option Nat
 | .seq a b=>match firstLabel a with
  |some l=>some l
  |none=>firstLabel b
 | .label l=>some l
 |_=>none
def awpG (P:Program) (T:Tab):Code→St→(Ex→St→Prop)→(Nat→St→Prop)→Prop
 | .skip,st,K,_=>K .normal st
 | .region _ ops draw,st,K,_=>if draw then DrawA P T ops st (K .normal) else awpOps P T ops ops.toList st (K .normal)
 | .seq a b,st,K,G=>awpG P T a st (fun e st=>match e with
  | .normal=>awpG P T b st K G
  | .ret=>K .ret st
  | .exit id=>K (.exit id) st) G
 | .cond c a b,⟨t,m⟩,K,G=>match ev t c,c with
  | .kb true,_=>awpG P T a ⟨t,m⟩ K G
  | .kb false,_=>awpG P T b ⟨t,m⟩ K G
  | .cv (.bool t₁),.tmp d=>∀t',t₁=t'→setK t d (.kb t') fun t=>match t' with
   |true=>awpG P T a ⟨t,m⟩ K G
   |false=>awpG P T b ⟨t,m⟩ K G
  |_,_=>False
 | .block id a,st,K,G=>awpG P T a st (fun e st=>match e with
  | .normal=>K .normal st
  | .ret=>K .ret st
  | .exit id'=>if id'=id then K .normal st else K (.exit id') st) G
 | .loop a,st,K,G=>LoopA (fun st K=>awpG P T a st K G) a st K
 | .exit id,st,K,_=>K (.exit id) st
 | .ret,st,K,_=>K .ret st
 | .label _,st,K,_=>K .normal st
 | .goto l,st,_,G=>G l st
 |_,_,_,_=>False
def awpTop (P:Program) (T:Tab):Code→St→(Ex→St→Prop)→Prop
 | .seq a b,st,K=>awp P T a st fun e st=>match e with
  | .normal=>awpTop P T b st K
  | .ret=>K .ret st
  | .exit id=>K (.exit id) st
 | .scope a,st,K=>match firstLabel a with
  |some l=>match findLabel a l with
   |some rest=>awpG P T a st K fun l' st=>match Nat.beq l' l with
    |true=>awp P T rest st K
    |false=>False
   |none=>False
  |none=>False
 |_,_,_=>False
section
variable {P:Program} {T:Tab} {B:Fr} {w0:World}
def QKG (B:Fr) (w0:World) (K:Ex→St→Prop) (G:Nat→St→Prop):Exit→Act→World→Prop
 | .normal,a,w=>OkSt B w0 (K .normal) a w
 | .ret,a,w=>OkSt B w0 (K .ret) a w
 | .exit id,a,w=>OkSt B w0 (K (.exit id)) a w
 | .goto l,a,w=>OkSt B w0 (G l) a w
 |_,_,_=>False
theorem awpG_sound (hT:TOk P T) (hm:P.follows .mixedOrders=true) (hg:FrOk B) (G:Nat→St→Prop):∀(c:Code) (K:Ex→St→Prop) (a:Act) (w:World),OkSt B w0 (fun st=>awpG P T c st K G) a w→c.wp P (QKG B w0 K G) a w:=by
 intro c
 induction c with
 |skip=>rintro K a w ⟨N,S,t,m,hs,h⟩;exact wp_skip ⟨N,S,t,m,hs,h⟩
 |region id ops draw=>
  rintro K a w ⟨N,S,t,m,hs,h⟩
  simp only[awpG] at h
  cases draw with
  |true=>
   simp only[if_true] at h
   exact draw_sound hT hm (K:=K .normal) (fun a w h=>h) ⟨N,S,t,m,hs,h⟩
  |false=>
   simp only[Bool.false_eq_true,if_false] at h
   exact wp_region_list (ops_sound hT (K:=K .normal) (fun a w h=>h) ops.toList a w ⟨N,S,t,m,hs,h⟩)
 |seq x y ihx ihy=>
  rintro K a w ⟨N,S,t,m,hs,h⟩
  simp only[awpG] at h
  refine wp_seq (Go.wp_mono (ihx _ a w ⟨N,S,t,m,hs,h⟩) ?_)
  intro e a w h
  cases e<;>simp only[QKG,Exit.then] at h⊢
  ·exact ihy K a w h
  ·exact h
  ·exact h
  ·exact h
 |cond c x y ihx ihy=>
  rintro K a w ⟨N,S,t,m,hs,h⟩
  simp only[awpG] at h
  have hr:=hs.ev c
  generalize hu:a.eval c=u at hr
  split at h
  ·rename_i hev
   rw[hev] at hr
   cases hr
   exact wp_cond hu (ihx K a w ⟨N,S,t,m,hs,h⟩)
  ·rename_i hev
   rw[hev] at hr
   cases hr
   exact wp_cond hu (ihy K a w ⟨N,S,t,m,hs,h⟩)
  ·rename_i b d hev
   rw[hev] at hr
   cases hr
   have h:=h b rfl
   rw[setK_eq] at h
   have hb:t[d]?=some (.cv (.bool b)):=by
    simp only[ev,List.getD_eq_getElem?_getD] at hev
    cases hd:t[d]? with
    |none=>rw[hd] at hev;cases hev
    |some v=>rw[hd] at hev;simp at hev;rw[hev]
   have hs':=hs.nf (nfEq.mark (rfl:nfEq t t) hb)
   refine wp_cond hu ?_
   cases b
   ·exact ihy K a w ⟨N,S,_,m,hs',h⟩
   ·exact ihx K a w ⟨N,S,_,m,hs',h⟩
  ·exact h.elim
 |block id x ih=>
  rintro K a w ⟨N,S,t,m,hs,h⟩
  simp only[awpG] at h
  refine wp_block (Go.wp_mono (ih _ a w ⟨N,S,t,m,hs,h⟩) ?_)
  intro e a w h
  cases e<;>simp only[QKG,Exit.inBlock] at h⊢
  ·exact h
  ·rename_i id'
   by_cases he:id'=id
   ·simp only[he,if_true] at h⊢;exact h
   ·simp only[he,if_false] at h⊢;exact h
  ·exact h
  ·exact h
 |loop c ih=>
  rintro K a w ⟨N,S,t,m,hs,h⟩
  simp only[awpG,LoopA] at h
  obtain⟨rows,h⟩:=h
  split at h
  ·rename_i n _ _ _
   have hex0:∃n,OkSt B w0 (fun st=>unroll (fun st K=>awpG P T c st K G) n st K) a w:=⟨n,N,S,t,m,hs,h⟩
   let meas (a:Act) (w:World):Nat:=@dite _ (∃n,OkSt B w0 (fun st=>unroll (fun st K=>awpG P T c st K G) n st K) a w) (Classical.propDecidable _) (fun h=>(exists_least h).choose) (fun _=>0)
   refine wp_loop (fun a w=>∃n,OkSt B w0 (fun st=>unroll (fun st K=>awpG P T c st K G) n st K) a w) meas hex0 ?_
   intro a w hex
   have hmeas:meas a w=(exists_least hex).choose:=by simp only[meas,dif_pos hex]
   generalize hk:(exists_least hex).choose=k at hmeas
   have hk':=(exists_least hex).choose_spec.1
   rw[hk] at hk'
   obtain⟨N,S,t,m,hs,h⟩:=hk'
   cases k with
   |zero=>exact h.elim
   |succ k=>
    simp only[unroll] at h
    refine Go.wp_mono (ih _ a w ⟨N,S,t,m,hs,h⟩) ?_
    intro e a' w' h
    cases e<;>simp only[QKG,Exit.then] at h⊢
    ·have hex':∃n,OkSt B w0 (fun st=>unroll (fun st K=>awpG P T c st K G) n st K) a' w':=⟨k,h⟩
     refine⟨hex',?_⟩
     have:meas a' w'≤k:=by
      simp only[meas,dif_pos hex']
      exact(exists_least hex').choose_spec.2 _ h
     omega
    all_goals exact h
  obtain⟨N1,S1,t1,m1,hs1,X,ups,mups,I,μ,x0,hI0,hW0,hround⟩:=rows_sound rows hs h
  rw[head_eq] at hW0
  let Good (x:X) (a:Act) (w:World):Prop:=I x∧∃N S,Sat B w0 N S ((updL (ups x) (forgetL .un (Code.wr c) t1)).map (V.clean (updL (mups x) (forgetL none (Code.wr c) m1)))) (updL (mups x) (forgetL none (Code.wr c) m1)) a w
  obtain⟨N2,hs2⟩:=hs1.weaken hg hW0
  let meas (a:Act) (w:World):Nat:=@dite _ (∃n,∃x,Good x a w∧μ x=n) (Classical.propDecidable _) (fun h=>(exists_least h).choose) (fun _=>0)
  refine wp_loop (fun a w=>∃x,Good x a w) meas ⟨x0,hI0,N2,S1,hs2⟩ ?_
  rintro a w ⟨x1,hx1⟩
  have hex:∃n,∃x,Good x a w∧μ x=n:=⟨_,x1,hx1,rfl⟩
  obtain⟨x,⟨hIx,N3,S3,hs3⟩,hμ⟩:=(exists_least hex).choose_spec.1
  have hmeas:meas a w=μ x:=by simp only[meas,dif_pos hex,hμ]
  have hr:=hround x hIx
  rw[head_eq] at hr
  refine Go.wp_mono (ih _ a w ⟨N3,S3,_,_,hs3,hr⟩) ?_
  intro e a' w' h
  cases e<;>simp only[QKG,Exit.then] at h⊢
  ·obtain⟨N4,S4,t4,m4,hs4,x',hI',hlt,hW⟩:=h
   rw[head_eq] at hW
   obtain⟨N5,S5,hs5⟩:=hs4.weakenR hg hW
   have hg:Good x' a' w':=⟨hI',N5,S5,hs5⟩
   refine⟨⟨x',hg⟩,?_⟩
   have hex':∃n,∃x,Good x a' w'∧μ x=n:=⟨_,x',hg,rfl⟩
   have:meas a' w'≤μ x':=by
    simp only[meas,dif_pos hex']
    exact(exists_least hex').choose_spec.2 _ ⟨x',hg,rfl⟩
   omega
  ·exact h
  ·exact h
  ·exact h
 |exit id=>rintro K a w ⟨N,S,t,m,hs,h⟩;exact wp_exit ⟨N,S,t,m,hs,h⟩
 |ret=>rintro K a w ⟨N,S,t,m,hs,h⟩;exact wp_ret ⟨N,S,t,m,hs,h⟩
 |scope x ih=>rintro K a w ⟨N,S,t,m,hs,h⟩;exact h.elim
 |rangeFunc f ps x y ih1 ih2=>rintro K a w ⟨N,S,t,m,hs,h⟩;exact h.elim
 |label l=>rintro K a w ⟨N,S,t,m,hs,h⟩;exact wp_label ⟨N,S,t,m,hs,h⟩
 |goto l=>rintro K a w ⟨N,S,t,m,hs,h⟩;exact wp_goto ⟨N,S,t,m,hs,h⟩
 |refuse why=>rintro K a w ⟨N,S,t,m,hs,h⟩;exact h.elim
theorem awpTop_sound (hT:TOk P T) (hm:P.follows .mixedOrders=true) (hg:FrOk B):∀(c:Code) (K:Ex→St→Prop) (a:Act) (w:World),OkSt B w0 (fun st=>awpTop P T c st K) a w→c.wp P (QK B w0 K) a w:=by
 intro c
 induction c with
 |seq x y ihx ihy=>
  rintro K a w ⟨N,S,t,m,hs,h⟩
  simp only[awpTop] at h
  refine wp_seq (Go.wp_mono (awp_sound hT hm hg x _ a w ⟨N,S,t,m,hs,h⟩) ?_)
  intro e a w h
  cases e<;>simp only[QK,Exit.then] at h⊢
  ·exact ihy K a w h
  ·exact h
  ·exact h
 |scope c ih=>
  rintro K a w ⟨N,S,t,m,hs,h⟩
  simp only[awpTop] at h
  split at h
  rotate_left
  ·exact h.elim
  rename_i l hl
  split at h
  rotate_left
  ·exact h.elim
  rename_i rest hrest
  refine wp_scope_jumps l (fun a w=>OkSt B w0 (fun st=>awp P T rest st K) a w) (fun _ _=>0) hrest ?_ ?_
  ·refine Go.wp_mono (awpG_sound hT hm hg _ c K a w ⟨N,S,t,m,hs,h⟩) ?_
   intro e a w h
   cases e<;>simp only[QKG,QK,Exit.jump] at h⊢ <;>try exact h
   rename_i l'
   obtain⟨N,S,t,m,hs,h⟩:=h
   split at h
   ·rename_i hb
    exact⟨Nat.eq_of_beq_eq_true hb,N,S,t,m,hs,h⟩
   ·exact h.elim
  ·intro a w hJ
   refine Go.wp_mono (awp_sound hT hm hg rest K a w hJ) ?_
   intro e a w h
   cases e<;>simp only[QK,Exit.jump] at h⊢ <;>exact h
 |_=>rintro K a w ⟨N,S,t,m,hs,h⟩;exact h.elim
def BodyGo (P:Program) (T:Tab) (fn:Func) (args:List V) (res:V):Prop:=
 match fn.body with
 |some c=>enterK fn args fun st=>awpTop P T c st (Done T fn res)
 |none=>False
theorem dcalls_ofG (hT:TOk P T) (hm:P.follows .mixedOrders=true) {f:FuncId} {fn:Func} (hf:P.funcs[f]?=some fn) (hn:(fn.name== "runtime.NumGoroutine")=false) {args:List V} {res:V} (h:BodyGo P T fn args res):DCalls P f args res:=by
 unfold BodyGo at h
 cases hb:fn.body with
 |none=>rw[hb] at h;exact h.elim
 |some c=>
  rw[hb] at h
  refine⟨⟨fn,hf,hn,by rw[hb];rfl⟩,fun w vs hi hvs=>?_⟩
  simp only[enterK,forceAll_eq] at h
  refine calls_of_wp hf hb (Go.wp_mono (awpTop_sound (B:={keep:=(· <w.heap.size),old:=fun _=>True,lent:=fun _=>none,ref:=w}) (w0:=w) hT hm ⟨by intro p hp;simp at hp,rfl⟩ c _ _ w ⟨_,_,_,_,sat_enter hi hvs fn.ntmps,h⟩) ?_)
  have key:∀(a:Act) (w':World),OkSt {keep:=(· <w.heap.size),old:=fun _=>True,lent:=fun _=>none,ref:=w} w (resK T fn (fun v=>v=res)) a w'→a.defers=[]∧∃v,(results fn a.tmps).run P w'= .ok v w'∧
    ∃v',Ending.returned v= .returned v'∧RelV (fun _=>none) (fun _ b=>w.heap.size≤b∧b<w'.heap.size) w' res v'∧Below w.heap.size w w':=by
   rintro a w' ⟨N,S,t,m,hs,h⟩
   simp only[resK] at h
   obtain⟨us,vs,h1,h2,h3⟩:=resL_sound hT hs _ _ h
   have hrun:∀v,(if h:us.toArray.size=1 then us.toArray[0] else .tuple us.toArray)=v→(results fn a.tmps).run P w'= .ok v w':=by
    intro v hv
    unfold results
    rw[Array.mapM_eq_mapM_toList]
    change Sem.run P (do
     let vs ←List.toArray<$>fn.results.toList.mapM (resR a)
     pure (if h:vs.size=1 then vs[0] else Value.tuple vs)) w'=_
    simp only[Sem.run_bind,Sem.run_map,h1,Result.andThen_ok,Sem.run_pure,hv]
   refine⟨hs.nodef,?_⟩
   split at h3
   ·rename_i v
    subst h3
    obtain⟨u,rfl⟩:∃u,us=[u]:=by
     have:=h2.1
     match us,this with
     |[u],_=>exact⟨u,rfl⟩
    exact⟨u,hrun u rfl,u,rfl,by simpa using h2.2 0 v rfl,hs.low.below⟩
   ·rename_i hne
    subst h3
    have hsz:us.toArray.size≠1:=by
     intro e
     have:us.length=1:=by simpa using e
     have h4:=h2.1
     rw[this] at h4
     match vs,h4 with
     |[v],_=>exact hne v rfl
    refine⟨.tuple us.toArray,hrun _ (by rw[dif_neg hsz]),_,rfl,.tu _ _ (by simpa using h2.1) fun i v hv=>?_,hs.low.below⟩
    have:=h2.2 i v hv
    rw[←getD_toList];simpa using this
  intro e a w' h
  cases e<;>simp only[QK] at h<;>first|exact h.elim|skip
  ·exact key a w' h
  ·obtain⟨N,S,t,m,hs,h⟩:=h;exact h.elim
  ·exact key a w' h
end
theorem sxg {f:FuncId} {fn:Func} (hf:Tryz.prog.funcs[f]?=some fn) (hn:(fn.name== "runtime.NumGoroutine")=false) {args:List V} {res:V} (h:BodyGo Tryz.prog TT fn args res):DCalls Tryz.prog f args res:=
 dcalls_ofG tok mixed hf hn h
end Go.Proofs.YtdccglkagfdooaaGreatDoor
namespace Go.Proofs.YtdccglkagfdooaaGreatDoor
open Go.RowKit
def unpB:Nat→Bs→List Bs→List Bs×Int
 |0,s,acc=>if s=[] then(acc,0) else([],13)
 |n+1,a::b::r,acc=>if 256*a.toNat+b.toNat>4000 then([],13) else if r.length<256*a.toNat+b.toNat then([],14)
  else unpB n (r.drop (256*a.toNat+b.toNat)) (acc++[r.take (256*a.toNat+b.toNat)])
 |_+1,_,_=>([],14)
def unpackP:Bs→List Bs×Int
 |[]=>([],14)
 |c::r=>if c.toNat>64 then([],13) else unpB c.toNat r []
theorem unpack_cons (c:UInt8) (r:Bs):unpackP (c::r)=if c.toNat>64 then([],13) else unpB c.toNat r []:=rfl
abbrev unV (p:List Bs×Int):V:= .tu [strsV p.1,int p.2]
theorem fin_un {p q:List Bs×Int} (h:p=q):unV p=unV q:=by rw[h]
theorem mkF (l:Bs) (k:Nat):(mk l).extract ((k:Nat):Int).toNat (((mk l).size:Nat):Int).toNat=mk (l.drop k):=by
 rw[Int.toNat_natCast,Int.toNat_natCast,mk_size,mk_from]
theorem u8i64 (c:UInt8):IntKind.i64.wrap ((c.toNat:Nat):Int)=((c.toNat:Nat):Int):=by have:=c.toNat_lt;rw[IntWalk.i64_in _ (by omega)]
theorem or8W (a b:UInt8):IntKind.i64.wrap ((BitVec.ofInt IntKind.i64.bits (IntKind.i64.wrap (((a.toNat:Nat):Int)*2 ^ (min (Int.toNat 8) IntKind.i64.bits)))|||BitVec.ofInt IntKind.i64.bits ((b.toNat:Nat):Int)).toNat:Nat)=((256*a.toNat+b.toNat:Nat):Int):=by
 have ha:=a.toNat_lt;have hb:=b.toNat_lt
 have h64:IntKind.i64.bits=64:=rfl
 rw[show(2:Int) ^ (min (Int.toNat 8) IntKind.i64.bits)=256 from rfl,IntWalk.i64_in (((a.toNat:Nat):Int)*256) (by omega),BitVec.toNat_or,h64,BitVec.toNat_ofInt,BitVec.toNat_ofInt]
 have e1:((((a.toNat:Nat):Int)*256) % ((2 ^ 64:Nat):Int)).toNat=256*a.toNat:=by omega
 have e2:(((b.toNat:Nat):Int) % ((2 ^ 64:Nat):Int)).toNat=b.toNat:=by omega
 have e3:=Nat.two_pow_add_eq_or_of_lt (i:=8) (b:=b.toNat) (by omega) a.toNat
 rw[e1,e2,show 256*a.toNat=2 ^ 8*a.toNat from rfl,←e3,IntWalk.i64_in _ (by omega)]
theorem mkF1 (c:UInt8) (r:Bs):(mk (c::r)).extract (Int.toNat 1) (((mk (c::r)).size:Nat):Int).toNat=mk r:=mkF (c::r) 1
theorem mkF2 (c d:UInt8) (r:Bs):(mk (c::d::r)).extract (Int.toNat 2) (((mk (c::d::r)).size:Nat):Int).toNat=mk r:=mkF (c::d::r) 2
theorem x_unpack (l:Bs) (hl:l.length≤140737488355328):DCalls Tryz.prog 22 [bstr l] (unV (unpackP l)):=by
 refine sxg Tryz.func22 (by kernel_rfl) ?_
 cases l with
 |nil=>
  conv=>whnf
  refine known true (show sEq (mk []) (mk [])=true by rw[sEq_mk];rfl) ?_
  (conv=>whnf)<;>rfl
 |cons c r=>
 conv=>whnf
 refine known false (show sEq (mk (c::r)) (mk [])=false by rw[sEq_mk];rfl) ?_
 conv=>whnf
 refine⟨none,by kernel_rfl,?_⟩
 conv=>whnf
 refine⟨by omega,_,mk_at (n:=0) (by simp),?_⟩
 conv=>whnf
 refine⟨by omega,by rw[mk_size,List.length_cons];omega,by omega,?_⟩
 rw[mkF1]
 conv=>whnf
 rw[show(c::r)[0]=c from rfl,u8i64]
 rintro(_|_) h1
 rotate_left
 ·have h1:c.toNat>64:=by simp at h1;omega
  conv=>whnf
  exact fin_un (p:=([],13)) (by rw[unpack_cons,if_pos h1])
 have h1:c.toNat≤64:=by simp at h1;omega
 generalize hR:unpackP (c::r)=R
 have hR:unpB c.toNat r []=R:=by rw[←hR,unpack_cons,if_neg (by omega)]
 have hrl:r.length≤140737488355328:=by simp at hl;omega
 generalize c.toNat=n at*
 conv=>whnf
 refine⟨[(4,44,9,1)],Nat×Bs×List Bs,fun⟨i,s,acc⟩=>[(18,int i),(0,bstr s),(4,.ow 44 0),(7,int 14)],fun⟨i,s,acc⟩=>[(44,some (.row 0 9 1 true (acc.map strD)))],fun⟨i,s,acc⟩=>i≤n∧s.length≤140737488355328∧acc.length≤i∧unpB (n - i) s acc=R,fun x=>n - x.1,(0,r,[]),⟨by omega,hrl,by simp,hR⟩,?_,?_⟩
 ·refine⟨rfl,?_,?_⟩<;>repeat' (first|exact trivial|exact rfl|refine and_rfl ?_|refine and_two ?_ ?_)
 rintro⟨i,s,acc⟩ ⟨hi,hs,ha,hk⟩
 conv=>whnf
 rintro(_|_) h2
 ·have h2:i=n:=by simp at h2;omega
  rw[show n - i=0 by omega] at hk
  unfold unpB at hk
  conv=>whnf
  rintro(_|_) h3
  ·have h3:(!sEq (mk s) (mk []))=false:=h3
   rw[sEq_mk] at h3
   have h3:s=[]:=by simpa using h3
   rw[if_pos h3] at hk
   conv=>whnf
   refine⟨_,_,ot_slice3 tok rfl rfl rfl rfl rfl rfl rfl,?_⟩
   conv=>whnf
   exact fin_un (p:=(acc,0)) hk
  ·have h3:(!sEq (mk s) (mk []))=true:=h3
   rw[sEq_mk] at h3
   have h3:s≠[]:=by simpa using h3
   rw[if_neg h3] at hk
   conv=>whnf
   exact fin_un (p:=([],13)) hk
 have h2:i<n:=by simp at h2;omega
 rw[show n - i=(n - (i+1))+1 by omega] at hk
 conv=>whnf
 rintro(_|_) h3
 rotate_left
 ·have h3:s.length<2:=by simp[mk_size] at h3;omega
  have hk:([],14)=R:=by
   match s,h3,hk with
   |[],_,hk=>exact hk
   |[a],_,hk=>exact hk
  conv=>whnf
  exact fin_un (p:=([],14)) hk
 have h3:2≤s.length:=by simp[mk_size] at h3;omega
 match s,h3,hk,hs with
 |a::b::q,h3,hk,hs=>
 unfold unpB at hk
 have hal:=a.toNat_lt
 have hbl:=b.toNat_lt
 simp only[List.length_cons] at hs
 conv=>whnf
 refine⟨none,by kernel_rfl,?_⟩
 conv=>whnf
 refine⟨by omega,_,mk_at (n:=0) (by simp),?_⟩
 conv=>whnf
 refine⟨by omega,?_⟩
 conv=>whnf
 refine⟨by omega,_,mk_at (n:=1) (by simp),?_⟩
 conv=>whnf
 refine⟨by omega,by rw[mk_size,List.length_cons,List.length_cons];omega,by omega,?_⟩
 rw[mkF2]
 conv=>whnf
 rw[show(a::b::q)[0]=a from rfl,show(a::b::q)[1]=b from rfl,u8i64,u8i64,or8W]
 generalize 256*a.toNat+b.toNat=z at*
 rintro(_|_) h4
 rotate_left
 ·have h4:z>4000:=by simp at h4;omega
  rw[if_pos h4] at hk
  conv=>whnf
  exact fin_un (p:=([],13)) hk
 have h4:z≤4000:=by simp at h4;omega
 rw[if_neg (by omega)] at hk
 conv=>whnf
 rintro(_|_) h5
 rotate_left
 ·have h5:q.length<z:=by simp[mk_size] at h5;omega
  rw[if_pos h5] at hk
  conv=>whnf
  exact fin_un (p:=([],14)) hk
 have h5:z≤q.length:=by simp[mk_size] at h5;omega
 rw[if_neg (by omega)] at hk
 conv=>whnf
 refine⟨some (.one 0 (.one 1 (.one 2 (.one 6 (.one 7 (.one 3 (.alt 4 (.alt 5 (.one 8 (.one 9 (.one 10 .done))) (.alt 8 (.one 5 (.one 9 (.one 10 .done))) .stop)) (.alt 8 (.one 4 (.one 5 (.one 9 (.one 10 .done)))) .stop)))))))),by kernel_rfl,?_⟩
 conv=>whnf
 refine⟨by omega,by omega,by rw[mk_size];omega,?_⟩
 rw[show(mk q).extract (Int.toNat 0) ((z:Nat):Int).toNat=mk (q.take z) by rw[mk_ext];simp]
 conv=>whnf
 refine⟨?_,?_⟩
 ·conv=>whnf
  refine⟨?_,?_⟩
  ·skip
   conv=>whnf
   refine⟨by simp;omega,?_⟩
   conv=>whnf
   refine⟨by omega,by rw[mk_size];omega,by omega,?_⟩
   rw[mkF]
   conv=>whnf
   refine⟨(i+1,q.drop z,acc++[q.take z]),⟨h2,by rw[List.length_drop];omega,by simp;omega,hk⟩,by dsimp only;omega,?_⟩
   refine⟨rfl,?_,?_⟩<;>repeat' (first|exact trivial|exact rfl|refine and_rfl ?_|refine and_val (wrap_succ (by omega)) ?_|refine and_two ?_ ?_|(simp[strD];done))
  ·conv=>whnf
   refine⟨?_,trivial⟩
   conv=>whnf
   refine⟨by omega,by rw[mk_size];omega,by omega,?_⟩
   rw[mkF]
   conv=>whnf
   refine⟨by simp;omega,?_⟩
   conv=>whnf
   refine⟨(i+1,q.drop z,acc++[q.take z]),⟨h2,by rw[List.length_drop];omega,by simp;omega,hk⟩,by dsimp only;omega,?_⟩
   refine⟨rfl,?_,?_⟩<;>repeat' (first|exact trivial|exact rfl|refine and_rfl ?_|refine and_val (wrap_succ (by omega)) ?_|refine and_two ?_ ?_|(simp[strD];done))
 ·conv=>whnf
  refine⟨?_,trivial⟩
  conv=>whnf
  refine⟨by omega,by rw[mk_size];omega,by omega,?_⟩
  rw[mkF]
  conv=>whnf
  refine⟨by simp;omega,?_⟩
  conv=>whnf
  refine⟨(i+1,q.drop z,acc++[q.take z]),⟨h2,by rw[List.length_drop];omega,by simp;omega,hk⟩,by dsimp only;omega,?_⟩
  refine⟨rfl,?_,?_⟩<;>repeat' (first|exact trivial|exact rfl|refine and_rfl ?_|refine and_val (wrap_succ (by omega)) ?_|refine and_two ?_ ?_|(simp[strD];done))
end Go.Proofs.YtdccglkagfdooaaGreatDoor
namespace Go.Proofs.YtdccglkagfdooaaGreatDoor
open Go.RowKit
section
variable {P:Program} {T:Tab} {B:Fr} {w0:World} {N:Names} {S:Sets} {t:List V} {m:List (Option Bk)} {a:Act} {w:World}
theorem cellsOne {v:Value} (h:v.oneCell'=true):v.cells= #[v]:=by
 cases v<;>simp_all [Value.oneCell',Value.cells]
theorem ot_build3 (hT:TOk P T) {o:Oper} {E:Operand→V} {ty e d sz by_:Nat} {ag:Bool} {z:List Value} {x0 x1 x2:Operand} {i:TI} {v0 v1 v2:V} {ps:Array (Nat×Operand)} (ho:o.op= .buildSlice ty 3 ps) (hps:ps.toList=[(0,x0),(1,x1),(2,x2)])
  (hti:T ty=some ⟨sz,by_,ag,z,.slice e⟩) (hie:T e=some i) (h0:i.size=1) (hx0:E x0=v0) (hx1:E x1=v1) (hx2:E x2=v2) (hone:allOne [v0,v1,v2]=true) (_hcells:v0.cells=[v0]∧v1.cells=[v1]∧v2.cells=[v2])
  (_hu:([v0,v1,v2].all fun v=>match v with| .un=>false|_=>true)=true) (hd:o.dst=some d) (hm:m[d]?=some none) {c0 c1 c2:Cl} (hc:(toCl [v0,v1,v2] 0).1=[c0,c1,c2]):
  OpTr P o E m (.ow d 1) (m.set d (some (.asr 1 (rowC e 1 [[c0],[c1],[c2]]) (toCl [v0,v1,v2] 0).2))):=by
 intro B w0 N S t a w hs hr
 have hps':ps= #[(0,x0),(1,x1),(2,x2)]:=by cases ps;simp at hps;rw[hps]
 subst hps'
 have hr0:=hr x0 (by rw[ho];simp[Op.operands])
 have hr1:=hr x1 (by rw[ho];simp[Op.operands])
 have hr2:=hr x2 (by rw[ho];simp[Op.operands])
 rw[hx0] at hr0;rw[hx1] at hr1;rw[hx2] at hr2
 simp only[allOne,Bool.and_eq_true] at hone
 have o0:=hr0.one hone.1
 have o1:=hr1.one hone.2.1
 have o2:=hr2.one hone.2.2.1
 generalize hw0:a.eval x0=u0 at hr0 o0
 generalize hw1:a.eval x1=u1 at hr1 o1
 generalize hw2:a.eval x2=u2 at hr2 o2
 have hs':=hs.ghosted [(v0,u0),(v1,u1),(v2,u2)] (by
  intro p hp
  simp only[List.mem_cons,List.not_mem_nil,or_false] at hp
  rcases hp with rfl|rfl|rfl
  ·exact hr0
  ·exact hr1
  ·exact hr2)
 have hok:=ok_buildSliceE (E:=fun x=> .cv (a.eval x)) hT hs' ho (fun p hp=>by simp at hp;rcases hp with rfl|rfl|rfl<;>exact .cv _) (K:=fun v m'=>v= .ow d 0∧m'=m.set d (some (.row 0 e i.size true [[.cv u0],[.cv u1],[.cv u2]]))) (by
  rw[hti]
  simp only[hie]
  rw[if_neg (by omega)]
  have q0:(V.cv u0).cells=[.cv u0]:=by show u0.cells.toList.map V.cv=_;rw[cellsOne o0];rfl
  have q1:(V.cv u1).cells=[.cv u1]:=by show u1.cells.toList.map V.cv=_;rw[cellsOne o1];rfl
  have q2:(V.cv u2).cells=[.cv u2]:=by show u2.cells.toList.map V.cv=_;rw[cellsOne o2];rfl
  have d0:toDs [V.cv u0]=some ([.cv u0],true):=by simp[toDs,V.d,o0]
  have d1:toDs [V.cv u1]=some ([.cv u1],true):=by simp[toDs,V.d,o1]
  have d2:toDs [V.cv u2]=some ([.cv u2],true):=by simp[toDs,V.d,o2]
  simp only[elemsD,hw0,hw1,hw2,q0,q1,q2,d0,d1,d2,h0,List.replicate,List.length_cons,List.length_nil,forceD_eq,setK_eq,List.set_cons_zero,List.set_cons_succ,Bool.and_self,newK,hd,hm]
  simp)
 intro Q
 refine Oper.wp_mono' (hok Q) ?_
 rintro a' w' ⟨u,he,N',S',v,m',h5,h6,rfl,rfl⟩
 obtain⟨h5,hgr⟩:=h5.unghost
 have g0:=hgr (v0,u0) (by simp)
 have g1':=hgr (v1,u1) (by simp)
 have g2':=hgr (v2,u2) (by simp)
 have hrl':RelL N' S' w' [v0,v1,v2] [u0,u1,u2]:=relV_cons g0 (relV_cons g1' (relV_cons g2' ⟨rfl,by simp⟩))
 obtain⟨uo,e1,e2⟩:=toCl_cells (fun b hb=>(h5.fresh b hb).1) [] [] rfl hrl' (by simp[allOne,hone])
 simp only[List.length_nil,List.nil_append] at e1 e2
 rw[hc] at e2
 have hml:=lt_of_get hm
 rw[h0] at h5
 obtain⟨N2,g1,g2,g3⟩:=gh_ct (raws:=[[u0],[u1],[u2]]) (rs:=[[c0],[c1],[c2]]) (outs:=(toCl [v0,v1,v2] 0).2) h5 (by rw[List.getElem?_set_self hml];rfl) e1 rfl (by simp) (by simpa using e2)
 refine⟨u,he,N2,S',?_,?_⟩
 ·rw[List.set_set] at g1;exact g1
 ·obtain⟨w1,us0,q1,q2,_⟩:=h5.blk d _ (List.getElem?_set_self hml)
  have:=ow_of q1 h6
  obtain⟨A,c,hsl⟩:=own_parts q2
  rw[hsl] at q1 this
  subst this
  exact g3 _ q1
end
end Go.Proofs.YtdccglkagfdooaaGreatDoor
namespace Go.Proofs.YtdccglkagfdooaaGreatDoor
open Go.RowKit
end Go.Proofs.YtdccglkagfdooaaGreatDoor
namespace Go.Proofs.YtdccglkagfdooaaGreatDoor
open Go.RowKit
def srcE (m:Mf) (e ce:Int) (os:List Bs):Int:=if e≠0 then e else if ce≠0 then ce else if os.all fun x=>m.ops.contains x then 0 else 12
abbrev nilV:V:= .cv (.slice none 0 0)
def srcB (m:Mf) (p:Pg) (r:Int):Bk:=if r=0 then paB m (.sl true 5 (p.nodes.map ndD)) (.sl true 3 (p.funcs.map fcD)) else paB m nilV nilV
theorem x_bsource (m:Mf) (hm:m.ops.length≤1000000) (p:Pg) (at_ e ca ce:Int) (os:List Bs) (hol:os.length≤1000000) (hP:DCalls Tryz.prog 59 [bstr m.src] (.tu [p.V,int at_,int e])) (hC:e=0→DCalls Tryz.prog 60 [p.V] (.tu [int ca,int ce]))
  (hO:e=0→DCalls Tryz.prog 61 [p.V] (strsV os)):MCalls Tryz.prog 40 [.bx 0 0] [paB m nilV nilV] (int (srcE m e ce os)) [srcB m p (srcE m e ce os)]:=by
 obtain⟨nm,me,st,ops,src⟩:=m
 dsimp only at hm hP
 have hll:(os.map strD).length=os.length:=List.length_map _
 refine msxm [] Tryz.func40 (by kernel_rfl) (by kernel_rfl) ?_
 conv=>whnf
 refine⟨_,hP,?_⟩
 conv=>whnf
 rintro(_|_) h1
 rotate_left
 ·have h1:e≠0:=by simpa using h1
  have e1:srcE ⟨nm,me,st,ops,src⟩ e ce os=e:=by unfold srcE;rw[if_pos h1]
  rw[e1,show srcB ⟨nm,me,st,ops,src⟩ p e=paB ⟨nm,me,st,ops,src⟩ nilV nilV from if_neg h1]
  conv=>whnf
  exact⟨rfl,rfl,rfl⟩
 have h1:e=0:=by simpa using h1
 conv=>whnf
 refine⟨_,hC h1,?_⟩
 conv=>whnf
 rintro(_|_) h2
 rotate_left
 ·have h2:ce≠0:=by simpa using h2
  have e1:srcE ⟨nm,me,st,ops,src⟩ e ce os=ce:=by unfold srcE;rw[if_neg (by simp[h1]),if_pos h2]
  rw[e1,show srcB ⟨nm,me,st,ops,src⟩ p ce=paB ⟨nm,me,st,ops,src⟩ nilV nilV from if_neg h2]
  conv=>whnf
  exact⟨rfl,rfl,rfl⟩
 have h2:ce=0:=by simpa using h2
 have e0:srcE ⟨nm,me,st,ops,src⟩ e ce os=if os.all fun x=>ops.contains x then 0 else 12:=by unfold srcE;rw[if_neg (by simp[h1]),if_neg (by simp[h2])]
 conv=>whnf
 refine⟨_,hO h1,?_⟩
 conv=>whnf
 rw[hll]
 refine⟨[],Nat,fun k=>[(34,int k)],fun _=>[],fun k=>k≤os.length∧(os.drop k).all (fun x=>ops.contains x)=os.all (fun x=>ops.contains x),fun k=>os.length - k,0,⟨Nat.zero_le _,rfl⟩,?_,?_⟩
 ·refine⟨rfl,?_,?_⟩<;>repeat' (first|exact trivial|exact rfl|refine and_rfl ?_|refine and_two ?_ ?_)
 rintro k ⟨b0,b1⟩
 have b0:k≤os.length:=b0
 conv=>whnf
 rintro(_|_) h3
 ·have h3:os.length≤k:=by simp at h3;omega
  rw[List.drop_eq_nil_of_le h3] at b1
  have b1:os.all (fun x=>ops.contains x)=true:=b1.symm
  rw[b1,if_pos rfl] at e0
  rw[e0]
  conv=>whnf
  exact⟨rfl,rfl,rfl⟩
 have h3:k<os.length:=by simp at h3;omega
 rw[List.drop_eq_getElem_cons h3,List.all_cons] at b1
 conv=>whnf
 refine⟨by omega,_,get_map strD h3,?_⟩
 conv=>whnf
 refine⟨_,x_containsS ops os[k] (by omega),?_⟩
 conv=>whnf
 rintro(_|_) h4
 ·have h4:ops.contains os[k]=true:=by simpa using h4
  rw[h4,Bool.true_and] at b1
  conv=>whnf
  refine⟨k+1,⟨h3,b1⟩,by dsimp only;omega,?_⟩
  refine⟨rfl,?_,?_⟩<;>repeat' (first|exact trivial|exact rfl|refine and_rfl ?_|refine and_val (wrap_succ (by omega)) ?_|refine and_two ?_ ?_)
 ·have h4:ops.contains os[k]=false:=by simpa using h4
  rw[h4,Bool.false_and] at b1
  rw[←b1,if_neg (by simp)] at e0
  rw[e0,show srcB ⟨nm,me,st,ops,src⟩ p 12=paB ⟨nm,me,st,ops,src⟩ nilV nilV from if_neg (by decide)]
  conv=>whnf
  exact⟨rfl,rfl,rfl⟩
def bundleE (m:Mf) (nb:Bool) (r:Int):Int:=if nb=false then 4 else if numbersE m≠0 then numbersE m else if opsF m.ops (m.ops.length+1) 0≠0 then opsF m.ops (m.ops.length+1) 0 else r
abbrev mfL (m:Mf):V:= .ag [bstr m.nm,int m.me,int m.st,.sl false 1 (m.ops.map strD),bstr m.src]
abbrev paT (m:Mf) (p:Pg):Bk:= .box [bstr m.nm,int m.me,int m.st,.sl false 1 (m.ops.map strD),bstr m.src,.sl true 5 (p.nodes.map ndD),.sl true 3 (p.funcs.map fcD)]
def opM:List (Nat×Bool):=[(38,false),(39,false),(40,false),(2000082,false)]
theorem x_opened (m:Mf) (hm:m.ops.length≤1000000) (nb:Bool) (p:Pg) (r:Int) (hN:DCalls Tryz.prog 37 [bstr m.nm] (boo nb)) (hS:MCalls Tryz.prog 40 [.bx 0 0] [paB m nilV nilV] (int r) [srcB m p r]) (he:bundleE m nb r≠0):
  MCalls Tryz.prog 25 [mfL m] [] (.tu [.cv (.pointer none),int (bundleE m nb r)]) []:=by
 obtain⟨nm,me,st,ops,src⟩:=m
 dsimp only at hm hN
 refine msxm opM Tryz.func25 (by kernel_rfl) (by kernel_rfl) ?_
 conv=>whnf
 refine⟨_,hN,?_⟩
 cases nb with
 |false=>
  conv=>whnf
  refine known true rfl ?_
  conv=>whnf
  exact⟨rfl,rfl,rfl⟩
 |true=>
 conv=>whnf
 refine known false rfl ?_
 conv=>whnf
 refine at_tr (ot_build3 (tokM opM) rfl rfl rfl rfl rfl rfl rfl rfl rfl ⟨rfl,rfl,rfl⟩ rfl rfl rfl rfl) ?_
 conv=>whnf
 refine at_rd (rd_ct_len rfl Tryz.underlying82 rfl rfl) ?_
 conv=>whnf
 refine⟨[(3000002,4,0,0)],?_⟩
 conv=>whnf
 refine known true rfl ?_
 conv=>whnf
 refine at_rd (rd_ct_index (tokM opM) rfl rfl rfl rfl rfl rfl rfl rfl (by decide) (by decide)) ?_
 conv=>whnf
 refine at_rd (rd_ct_load (tokM opM) rfl rfl rfl rfl (by decide) rfl rfl) ?_
 conv=>whnf
 refine mcall (T:=TM opM) (φ:=[]) (x_bnumbers ⟨nm,me,st,ops,src⟩ nilV nilV ⟨[],.inl rfl⟩ ⟨[],.inl rfl⟩) ?_
 conv=>whnf
 rintro(_|_) h1
 rotate_left
 ·have h1:numbersE ⟨nm,me,st,ops,src⟩≠0:=by simpa using h1
  rw[show bundleE ⟨nm,me,st,ops,src⟩ true r=numbersE ⟨nm,me,st,ops,src⟩ by unfold bundleE;rw[if_neg (by simp),if_pos h1]]
  conv=>whnf
  exact⟨rfl,rfl,rfl⟩
 have h1:numbersE ⟨nm,me,st,ops,src⟩=0:=by simpa using h1
 conv=>whnf
 refine known true rfl ?_
 conv=>whnf
 refine at_rd (rd_ct_index (tokM opM) rfl rfl rfl rfl rfl rfl rfl rfl (by decide) (by decide)) ?_
 conv=>whnf
 refine at_rd (rd_ct_load (tokM opM) rfl rfl rfl rfl (by decide) rfl rfl) ?_
 conv=>whnf
 refine mcall (T:=TM opM) (φ:=[]) (x_bops ⟨nm,me,st,ops,src⟩ hm) ?_
 conv=>whnf
 rintro(_|_) h2
 rotate_left
 ·have h2:opsF ops (ops.length+1) 0≠0:=by simpa using h2
  rw[show bundleE ⟨nm,me,st,ops,src⟩ true r=opsF ops (ops.length+1) 0 by unfold bundleE;rw[if_neg (by simp),if_neg (by simp[h1]),if_pos h2]]
  conv=>whnf
  exact⟨rfl,rfl,rfl⟩
 have h2:opsF ops (ops.length+1) 0=0:=by simpa using h2
 conv=>whnf
 refine known true rfl ?_
 conv=>whnf
 refine at_rd (rd_ct_index (tokM opM) rfl rfl rfl rfl rfl rfl rfl rfl (by decide) (by decide)) ?_
 conv=>whnf
 refine at_rd (rd_ct_load (tokM opM) rfl rfl rfl rfl (by decide) rfl rfl) ?_
 have e:bundleE ⟨nm,me,st,ops,src⟩ true r=r:=by unfold bundleE;rw[if_neg (by simp),if_neg (by simp[h1]),if_neg (by simp[h2])]
 rw[e] at he⊢
 rw[show srcB ⟨nm,me,st,ops,src⟩ p r=paB ⟨nm,me,st,ops,src⟩ nilV nilV from if_neg he] at hS
 conv=>whnf
 refine mcall (T:=TM opM) (φ:=[]) hS ?_
 conv=>whnf
 refine known true (by simpa using he) ?_
 conv=>whnf
 exact⟨rfl,rfl,rfl⟩
theorem x_openedY (m:Mf) (hm:m.ops.length≤1000000) (nb:Bool) (p:Pg) (r:Int) (hN:DCalls Tryz.prog 37 [bstr m.nm] (boo nb)) (hS:MCalls Tryz.prog 40 [.bx 0 0] [paB m nilV nilV] (int r) [srcB m p r]) (he:bundleE m nb r=0):
  MCalls Tryz.prog 25 [mfL m] [] (.tu [.bx 0 0,int 0]) [paT m p]:=by
 obtain⟨nm,me,st,ops,src⟩:=m
 dsimp only at hm hN
 obtain⟨rfl,h1,h2,rfl⟩:nb=true∧numbersE ⟨nm,me,st,ops,src⟩=0∧opsF ops (ops.length+1) 0=0∧r=0:=by
  unfold bundleE at he
  split at he
  ·cases he
  split at he
  ·contradiction
  split at he
  ·contradiction
  rename_i a1 a2 a3
  exact⟨by simpa using a1,by simpa using a2,by simpa using a3,he⟩
 rw[show srcB ⟨nm,me,st,ops,src⟩ p 0=paB ⟨nm,me,st,ops,src⟩ (.sl true 5 (p.nodes.map ndD)) (.sl true 3 (p.funcs.map fcD)) from if_pos rfl] at hS
 refine msxm opM Tryz.func25 (by kernel_rfl) (by kernel_rfl) ?_
 conv=>whnf
 refine⟨_,hN,?_⟩
 conv=>whnf
 refine known false rfl ?_
 conv=>whnf
 refine at_tr (ot_build3 (tokM opM) rfl rfl rfl rfl rfl rfl rfl rfl rfl ⟨rfl,rfl,rfl⟩ rfl rfl rfl rfl) ?_
 conv=>whnf
 refine at_rd (rd_ct_len rfl Tryz.underlying82 rfl rfl) ?_
 conv=>whnf
 refine⟨[(3000002,4,0,0)],?_⟩
 conv=>whnf
 refine known true rfl ?_
 conv=>whnf
 refine at_rd (rd_ct_index (tokM opM) rfl rfl rfl rfl rfl rfl rfl rfl (by decide) (by decide)) ?_
 conv=>whnf
 refine at_rd (rd_ct_load (tokM opM) rfl rfl rfl rfl (by decide) rfl rfl) ?_
 conv=>whnf
 refine mcall (T:=TM opM) (φ:=[]) (x_bnumbers ⟨nm,me,st,ops,src⟩ nilV nilV ⟨[],.inl rfl⟩ ⟨[],.inl rfl⟩) ?_
 conv=>whnf
 refine known false (by simp[h1]) ?_
 conv=>whnf
 refine known true rfl ?_
 conv=>whnf
 refine at_rd (rd_ct_index (tokM opM) rfl rfl rfl rfl rfl rfl rfl rfl (by decide) (by decide)) ?_
 conv=>whnf
 refine at_rd (rd_ct_load (tokM opM) rfl rfl rfl rfl (by decide) rfl rfl) ?_
 conv=>whnf
 refine mcall (T:=TM opM) (φ:=[]) (x_bops ⟨nm,me,st,ops,src⟩ hm) ?_
 conv=>whnf
 refine known false (by simp[h2]) ?_
 conv=>whnf
 refine known true rfl ?_
 conv=>whnf
 refine at_rd (rd_ct_index (tokM opM) rfl rfl rfl rfl rfl rfl rfl rfl (by decide) (by decide)) ?_
 conv=>whnf
 refine at_rd (rd_ct_load (tokM opM) rfl rfl rfl rfl (by decide) rfl rfl) ?_
 conv=>whnf
 refine mcall (T:=TM opM) (φ:=[]) hS ?_
 conv=>whnf
 refine known false rfl ?_
 conv=>whnf
 refine known false rfl ?_
 conv=>whnf
 exact⟨rfl,rfl,rfl⟩
theorem x_bcheck (m:Mf) (hm:m.ops.length≤1000000) (nb:Bool) (p:Pg) (r:Int) (hN:DCalls Tryz.prog 37 [bstr m.nm] (boo nb)) (hS:MCalls Tryz.prog 40 [.bx 0 0] [paB m nilV nilV] (int r) [srcB m p r]):
  DCalls Tryz.prog 15 [m.V] (int (bundleE m nb r)):=by
 by_cases he:bundleE m nb r=0
 ·have h:=x_openedY m hm nb p r hN hS he
  rw[he]
  refine sxm [(25,false)] Tryz.func15 (by kernel_rfl) ?_
  conv=>whnf
  refine mcall (T:=TT) (φ:=[6]) h ?_
  (conv=>whnf)<;>rfl
 ·have h:=x_opened m hm nb p r hN hS he
  refine sxm [(25,false)] Tryz.func15 (by kernel_rfl) ?_
  conv=>whnf
  refine mcall (T:=TT) (φ:=[]) h ?_
  (conv=>whnf)<;>rfl
end Go.Proofs.YtdccglkagfdooaaGreatDoor
namespace Go.Proofs.YtdccglkagfdooaaGreatDoor
open Go.RowKit
theorem x_iname (s:ByteArray) (h:s.size≤maxLen):DCalls Tryz.prog 37 [str s] (boo (nameW s)):=dcalls_val Tryz.func37 (by kernel_rfl) (by kernel_rfl) rfl rfl fun w _=>iname_any s w h
def mfE (m:Mf):Int:=bundleE m (nameW (mk m.nm)) (srcE m (parseP m.src).2.2 (staticP (parseP m.src).1).2.2.2 (opsS (staticP (parseP m.src).1).2.2.2 (parseP m.src).1))
structure MfOk (m:Mf):Prop where
 ops:m.ops.length≤1000000
 nm:m.nm.length≤1000000
 src:m.src.length≤1000000
theorem ops_few (e:Int) (s:Bs):(opsS e (parseP s).1).length≤1000000:=by
 unfold opsS
 split
 ·simp
 unfold txtS
 have h1:=Lib.compact_length_le ((txtF 12 (parseP s).1.nodes).mergeSort fun x y=>decide (x≤y))
 rw[List.length_mergeSort] at h1
 have h2:=txtF_len 12 (parseP s).1.nodes
 have h3:=(parse_S s).ns
 omega
theorem x_mcheck (m:Mf) (hm:MfOk m):DCalls Tryz.prog 15 [m.V] (int (mfE m)):=by
 have h1:=hm.nm
 have h2:=hm.src
 refine x_bcheck m hm.ops _ (parseP m.src).1 _ (x_iname (mk m.nm) (by rw[mk_size];unfold maxLen;omega)) (x_bsource m hm.ops _ (parseP m.src).2.1 _ (staticP (parseP m.src).1).2.2.1 _ _ ?_ (x_sparseP m.src (by omega)) ?_ ?_)
 ·exact ops_few _ _
 ·intro h
  have:=parse_s h
  exact x_staticCk _ this.1 this.2
 ·intro h
  have:=parse_s h
  exact x_staticOps _ this.1 this.2
end Go.Proofs.YtdccglkagfdooaaGreatDoor
namespace Go.Proofs.YtdccglkagfdooaaGreatDoor
open Go.RowKit
section
variable {P:Program} {T:Tab} {B:Fr} {w0:World} {N:Names} {S:Sets} {t:List V} {m:List (Option Bk)} {a:Act} {w:World}
theorem ot_build2 (hT:TOk P T) {o:Oper} {E:Operand→V} {ty e d sz by_:Nat} {ag:Bool} {z:List Value} {x0 x1:Operand} {i:TI} {v0 v1:V} {ps:Array (Nat×Operand)} (ho:o.op= .buildSlice ty 2 ps) (hps:ps.toList=[(0,x0),(1,x1)])
  (hti:T ty=some ⟨sz,by_,ag,z,.slice e⟩) (hie:T e=some i) (h0:i.size=1) (hx0:E x0=v0) (hx1:E x1=v1) (hone:allOne [v0,v1]=true) (_hcells:v0.cells=[v0]∧v1.cells=[v1])
  (_hu:([v0,v1].all fun v=>match v with| .un=>false|_=>true)=true) (hd:o.dst=some d) (hm:m[d]?=some none) {c0 c1:Cl} (hc:(toCl [v0,v1] 0).1=[c0,c1]):
  OpTr P o E m (.ow d 1) (m.set d (some (.asr 1 (rowC e 1 [[c0],[c1]]) (toCl [v0,v1] 0).2))):=by
 intro B w0 N S t a w hs hr
 have hps':ps= #[(0,x0),(1,x1)]:=by cases ps;simp at hps;rw[hps]
 subst hps'
 have hr0:=hr x0 (by rw[ho];simp[Op.operands])
 have hr1:=hr x1 (by rw[ho];simp[Op.operands])
 rw[hx0] at hr0;rw[hx1] at hr1
 simp only[allOne,Bool.and_eq_true] at hone
 have o0:=hr0.one hone.1
 have o1:=hr1.one hone.2.1
 generalize hw0:a.eval x0=u0 at hr0 o0
 generalize hw1:a.eval x1=u1 at hr1 o1
 have hs':=hs.ghosted [(v0,u0),(v1,u1)] (by
  intro p hp
  simp only[List.mem_cons,List.not_mem_nil,or_false] at hp
  rcases hp with rfl|rfl
  ·exact hr0
  ·exact hr1)
 have hok:=ok_buildSliceE (E:=fun x=> .cv (a.eval x)) hT hs' ho (fun p hp=>by simp at hp;rcases hp with rfl|rfl<;>exact .cv _) (K:=fun v m'=>v= .ow d 0∧m'=m.set d (some (.row 0 e i.size true [[.cv u0],[.cv u1]]))) (by
  rw[hti]
  simp only[hie]
  rw[if_neg (by omega)]
  have q0:(V.cv u0).cells=[.cv u0]:=by show u0.cells.toList.map V.cv=_;rw[cellsOne o0];rfl
  have q1:(V.cv u1).cells=[.cv u1]:=by show u1.cells.toList.map V.cv=_;rw[cellsOne o1];rfl
  have d0:toDs [V.cv u0]=some ([.cv u0],true):=by simp[toDs,V.d,o0]
  have d1:toDs [V.cv u1]=some ([.cv u1],true):=by simp[toDs,V.d,o1]
  simp only[elemsD,hw0,hw1,q0,q1,d0,d1,h0,List.replicate,List.length_cons,List.length_nil,forceD_eq,setK_eq,List.set_cons_zero,List.set_cons_succ,Bool.and_self,newK,hd,hm]
  simp)
 intro Q
 refine Oper.wp_mono' (hok Q) ?_
 rintro a' w' ⟨u,he,N',S',v,m',h5,h6,rfl,rfl⟩
 obtain⟨h5,hgr⟩:=h5.unghost
 have g0:=hgr (v0,u0) (by simp)
 have g1':=hgr (v1,u1) (by simp)
 have hrl':RelL N' S' w' [v0,v1] [u0,u1]:=relV_cons g0 (relV_cons g1' ⟨rfl,by simp⟩)
 obtain⟨uo,e1,e2⟩:=toCl_cells (fun b hb=>(h5.fresh b hb).1) [] [] rfl hrl' (by simp[allOne,hone])
 simp only[List.length_nil,List.nil_append] at e1 e2
 rw[hc] at e2
 have hml:=lt_of_get hm
 rw[h0] at h5
 obtain⟨N2,g1,g2,g3⟩:=gh_ct (raws:=[[u0],[u1]]) (rs:=[[c0],[c1]]) (outs:=(toCl [v0,v1] 0).2) h5 (by rw[List.getElem?_set_self hml];rfl) e1 rfl (by simp) (by simpa using e2)
 refine⟨u,he,N2,S',?_,?_⟩
 ·rw[List.set_set] at g1;exact g1
 ·obtain⟨w1,us0,q1,q2,_⟩:=h5.blk d _ (List.getElem?_set_self hml)
  have:=ow_of q1 h6
  obtain⟨A,c,hsl⟩:=own_parts q2
  rw[hsl] at q1 this
  subst this
  exact g3 _ q1
end
end Go.Proofs.YtdccglkagfdooaaGreatDoor
