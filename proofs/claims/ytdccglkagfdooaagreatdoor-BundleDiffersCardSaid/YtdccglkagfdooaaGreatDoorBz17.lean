/- Texts joined by pack.py: XSxPn -/
import Derived.Test.YtdccglkagfdooaaGreatDoorBz13
namespace Go.Proofs.YtdccglkagfdooaaGreatDoor
open Go.RowKit
def PanTr (P:Program) (o:Oper) (E:Operand→V) (m:List (Option Bk)) (pv:Value):Prop:=
 ∀(B:Fr) (w0:World) (N:Names) (S:Sets) (t:List V) (a:Act) (w:World),Sat B w0 N S t m a w→(∀x∈o.op.operands.toList,RelV N S w (E x) (a.eval x))→
  ∀(next:Act→World→Prop) (Q:Exit→Act→World→Prop),(∀w',Low B.keep B.ref w'→Q (.panic [{v:=pv,recovered:=false}]) a w')→o.wp P a w next Q
def MPans (P:Program) (f:FuncId) (args:List V) (m:List Bk) (pv:Value):Prop:=
 (∃fn,P.funcs[f]?=some fn∧(fn.name== "runtime.NumGoroutine")=false∧fn.body.isNone=false)∧
 ∀(w:World) (vs ns:List Value) (So:Nat→Prop),MemOk w.heap.size (oldS So) w ns m→RelL (NamesOf ns) (oldS So) w args vs→
  Calls P f vs.toArray w fun e w'=>e= .panicked [{v:=pv,recovered:=false}]∧Low (fun g=>g<w.heap.size∧¬blks ns g) w w'
def mayB (T:Tab) (o:Oper):Bool:=match o.op with
 | .panic _=>true
 | .call c=>match c.callee with
  | .value (.func f)=>match T.fm f with
   |some false=>true
   |_=>false
  | .value (.tmp _)=>true
  |_=>false
 |_=>false
def PanA (P:Program) (o:Oper) (t:List V) (m:List (Option Bk)) (pv:Option Value):Prop:=∃p,pv=some p∧o.guard=none∧PanTr P o (evN t) m p
def aOpP (P:Program) (T:Tab) (pv:Option Value) (ops:Array Oper) (o:Oper):St→(St→Prop)→Prop
 |⟨t,m⟩,K=>match mayB T o with
  |false=>aOp P T ops o ⟨t,m⟩ K
  |true=>aOp P T ops o ⟨t,m⟩ K∨PanA P o t m pv
def awpOpsP (P:Program) (T:Tab) (pv:Option Value) (ops:Array Oper):List Oper→St→(St→Prop)→Prop
 |[],st,K=>K st
 |o::l,st,K=>aOpP P T pv ops o st fun st=>awpOpsP P T pv ops l st K
def awpPlanP (P:Program) (T:Tab) (pv:Option Value) (ops:Array Oper):Plan→St→(St→Prop)→Prop
 | .done,st,K=>K st
 | .one i p,st,K=>match ops[i]? with
  |some o=>aOp P T ops o st fun st=>awpPlanP P T pv ops p st K
  |none=>False
 | .pull i p,⟨t,m⟩,K=>match ops[i]? with
  |some o=>(match o.guard with
   |none=>∃v,(∀(m2:List (Option Bk)) (K2:V→List (Option Bk)→Prop),K2 v m2→aCore P T o (evN t) m2 K2)∧(putK t (fun st=>awpPlanP P T pv ops p st K) o.dst v m)
   |some _=>False)
  |none=>False
 | .alt i p q,st,K=>(match ops[i]? with
  |some o=>aOpP P T pv ops o st fun st=>awpPlanP P T pv ops p st K
  |none=>False)∧awpPlanP P T pv ops q st K
 | .stop,_,_=>True
def DrawP (P:Program) (T:Tab) (pv:Option Value) (ops:Array Oper) (st:St) (K:St→Prop):Prop:=
 ∃pl:Option Plan,match pl with
  |none=>drawOk T.fm ops=true∧awpOps P T ops ops.toList st K
  |some p=>(ancOk ops (ancs ops.toList)&&(p.cov ops (Array.replicate ops.size false)&&planOk T.fm ops (ancs ops.toList) p ops.size (Array.replicate ops.size false)))=true∧awpPlanP P T pv ops p st K
def awpP (P:Program) (T:Tab) (pv:Option Value):Code→St→(Ex→St→Prop)→Prop
 | .skip,st,K=>K .normal st
 | .region _ ops draw,st,K=>if draw then DrawP P T pv ops st (K .normal) else awpOpsP P T pv ops ops.toList st (K .normal)
 | .seq a b,st,K=>awpP P T pv a st fun e st=>match e with
  | .normal=>awpP P T pv b st K
  | .ret=>K .ret st
  | .exit id=>K (.exit id) st
 | .cond c a b,⟨t,m⟩,K=>match ev t c,c with
  | .kb true,_=>awpP P T pv a ⟨t,m⟩ K
  | .kb false,_=>awpP P T pv b ⟨t,m⟩ K
  | .cv (.bool t₁),.tmp d=>∀t',t₁=t'→setK t d (.kb t') fun t=>match t' with
   |true=>awpP P T pv a ⟨t,m⟩ K
   |false=>awpP P T pv b ⟨t,m⟩ K
  |_,_=>False
 | .block id a,st,K=>awpP P T pv a st fun e st=>match e with
  | .normal=>K .normal st
  | .ret=>K .ret st
  | .exit id'=>if id'=id then K .normal st else K (.exit id') st
 | .loop a,st,K=>LoopA (awpP P T pv a) a st K
 | .exit id,st,K=>K (.exit id) st
 | .ret,st,K=>K .ret st
 | .label _,st,K=>K .normal st
 | .scope a,st,K=>awpP P T pv a st K
 |_,_,_=>False
def MEnds (P:Program) (f:FuncId) (args:List V) (m:List Bk):Except Value (V×List Bk)→Prop
 | .ok r=>MCalls P f args m r.1 r.2
 | .error p=>MPans P f args m p
def errV:Except Value (V×List Bk)→Option Value
 | .ok _=>none
 | .error p=>some p
def BodyE (sd:List V→List Nat) (P:Program) (T:Tab) (fn:Func) (args:List V) (m:List Bk) (out:Except Value (V×List Bk)):Prop:=
 match fn.body with
 |some c=>enterMK fn args m fun st=>awpP P T (errV out) c st fun e st=>∃r,out= .ok r∧DoneM sd T fn m.length r.1 r.2 e st
 |none=>False
section
variable {P:Program} {T:Tab} {N:Names} {S:Sets} {a:Act} {w:World}
theorem run_call0 {o:Oper} {c:Call} {E:Operand→V} {f:FuncId} {pre post:List V} (ho:o.op= .call c) (hc:calleeV E c=some (f,pre,post)) (hx:∀x∈o.op.operands.toList,RelV N S w (E x) (a.eval x))
  (hF:∃fn,P.funcs[f]?=some fn∧(fn.name== "runtime.NumGoroutine")=false∧fn.body.isNone=false):
  ∃us:List Value,RelL N S w (pre++zA T E c.args.toList c.argTypes.toList++post) us∧(execOp a.eval o).run P w= .ok (.enter f us.toArray) w:=by
 obtain⟨fn,hf,hn,hb⟩:=hF
 have hn':¬fn.name= "runtime.NumGoroutine" :=by simpa using hn
 have hb':¬fn.body=none:=by intro e;rw[e] at hb;cases hb
 rw[ho] at hx
 have hargs:RelL N S w (zA T E c.args.toList c.argTypes.toList) (c.args.toList.map a.eval):=zA_rel _ fun x hx'=>hx x (by simp[Op.operands,Call.operands];exact .inr (by simpa using hx'))
 unfold calleeV at hc
 split at hc
 ·rename_i f' hcal
  cases hc
  refine⟨c.args.toList.map a.eval,by simpa using hargs,?_⟩
  have e:(c.args.toList.map a.eval).toArray=c.args.map a.eval:=by apply Array.ext';simp
  rw[e]
  unfold execOp
  simp only[ho]
  simp[resolve,hcal,Act.eval,Deferred.ofValue,invoke,callFunc,hf,hn',hb']
 ·rename_i i hcal
  have hv:=hx (.tmp i) (by simp[Op.operands,Call.operands,hcal])
  have fin:∀(fst cap:Array Value),a.eval (.tmp i)= .func (.func f) fst cap→RelL N S w pre fst.toList→RelL N S w post cap.toList→
    ∃us:List Value,RelL N S w (pre++zA T E c.args.toList c.argTypes.toList++post) us∧(execOp a.eval o).run P w= .ok (.enter f us.toArray) w:=by
   intro fst cap hu h1 h2
   refine⟨fst.toList++c.args.toList.map a.eval++cap.toList,relL_app (relL_app h1 hargs) h2,?_⟩
   have e:(fst.toList++c.args.toList.map a.eval++cap.toList).toArray=fst++(c.args.map a.eval++cap):=by
    apply Array.ext';simp
   rw[e]
   unfold execOp
   simp only[ho]
   simp[resolve,hcal,hu,Deferred.ofValue,invoke,callFunc,hf,hn',hb']
  generalize hE:E (.tmp i)=v at hv hc
  generalize hu:a.eval (.tmp i)=u at hv
  split at hc
  ·cases hc
   cases hv
   have hcv:∀(xs:Array Value),RelL N S w (xs.toList.map .cv) xs.toList:=fun xs=>⟨by simp,fun i v hv=>by
    rw[List.getElem?_map,Option.map_eq_some_iff] at hv
    obtain⟨x,hx,rfl⟩:=hv
    rw[List.getD_eq_getElem?_getD,hx];exact .cv _⟩
   exact fin _ _ hu (hcv _) (hcv _)
  ·cases hc
   cases hv
   rename_i cs us vs hn2 hl hr
   refine fin us vs hu ⟨by simp;omega,fun i v hv=>?_⟩ ⟨by simp;omega,fun i v hv=>?_⟩
   ·rw[List.getElem?_take] at hv
    split at hv
    ·rename_i hlt
     have:=hr i v hv
     rw[getD_toList]
     simpa[Array.getD_eq_getD_getElem?,Array.getElem?_append,show i<us.size by omega] using this
    ·cases hv
   ·rw[List.getElem?_drop] at hv
    have:=hr _ v hv
    rw[getD_toList]
    simpa[Array.getD_eq_getD_getElem?,Array.getElem?_append,hn2,show¬(us.size+i<us.size) by omega] using this
  ·cases hc
 ·cases hc
end
section
variable {P:Program} {T:Tab} {B:Fr} {w0:World} {N:Names} {S:Sets} {t t':List V} {m:List (Option Bk)} {a:Act} {w:World} {ops:Array Oper} {pv:Option Value} {p0:Value}
def QKP (B:Fr) (w0:World) (pv:Option Value) (K:Ex→St→Prop):Exit→Act→World→Prop
 | .normal,a,w=>OkSt B w0 (K .normal) a w
 | .ret,a,w=>OkSt B w0 (K .ret) a w
 | .exit id,a,w=>OkSt B w0 (K (.exit id)) a w
 | .panic chain,a,w=>∃p,pv=some p∧chain=[{v:=p,recovered:=false}]∧Low B.keep B.ref w∧a.defers=B.defers
 |_,_,_=>False
theorem stepP_sound (hT:TOk P T) (hs:Sat B w0 N S t m a w) {o:Oper} {K:St→Prop} (h:aOpP P T pv ops o ⟨t,m⟩ K)
  {K':Act→World→Prop} {Q:Exit→Act→World→Prop} (hQ:∀p a w,pv=some p→Low B.keep B.ref w→a.defers=B.defers→Q (.panic [{v:=p,recovered:=false}]) a w) (hKK:∀a w,OkSt B w0 K a w→K' a w):
  if Region.wanted o (yielded ops a.tmps) then o.wp P a w K' Q∨(o.asks P a w∧LetsOut Q) else K' (a.put o.dst undef) w:=by
 have plain:aOp P T ops o ⟨t,m⟩ K→(if Region.wanted o (yielded ops a.tmps) then o.wp P a w K' Q∨(o.asks P a w∧LetsOut Q) else K' (a.put o.dst undef) w):=by
  intro h
  obtain⟨v,m',t',h1,h2,h3⟩:=aOp_spec h rfl
  exact step_sound hT hs h1 (K:=fun st=>∃t',nfEq st.t t'∧K ⟨t',st.m⟩) ⟨t',h2,h3⟩ fun a w ⟨N,S,t,m,hs,t',he,h⟩=>hKK a w ⟨N,S,t',m,hs.nf he,h⟩
 simp only[aOpP] at h
 cases hb:mayB T o<;>simp only[hb] at h
 ·exact plain h
 ·rcases h with h|⟨p,hp,hg,h⟩
  ·exact plain h
  ·have hw:Region.wanted o (yielded ops a.tmps)=true:=by simp[Region.wanted,hg]
   rw[if_pos hw]
   exact .inl (h B w0 N S t a w hs (fun x _=>hs.evN x) K' Q fun w' hl=>hQ p a w' hp hl hs.nodef)
theorem opsP_sound (hT:TOk P T) {K:St→Prop} {Q:Exit→Act→World→Prop} (hQ:∀p a w,pv=some p→Low B.keep B.ref w→a.defers=B.defers→Q (.panic [{v:=p,recovered:=false}]) a w) (hKQ:∀a w,OkSt B w0 K a w→Q .normal a w) (l:List Oper):
  ∀(a:Act) (w:World),OkSt B w0 (fun st=>awpOpsP P T pv ops l st K) a w→wpList P ops Q l a w:=by
 induction l with
 |nil=>intro a w h;exact hKQ a w h
 |cons o l ih=>
  rintro a w ⟨N,S,t,m,hs,h⟩
  unfold wpList
  exact stepP_sound hT hs h hQ fun a w h=>ih a w h
theorem may_not {F:Nat→Option Bool} {T:Tab} {o:Oper} (h:mayB T o=true) (hF:F=T.fm:=by rfl):Op.nomem F o.op=false∧Oper.noeff F o=false∧Op.fresh F o.op=false:=by
 subst hF
 unfold mayB at h
 unfold Oper.noeff
 split at h
 ·rename_i e;rw[e];exact⟨rfl,rfl,rfl⟩
 ·rename_i c e
  rw[e]
  split at h
  ·rename_i f hc
   split at h
   ·rename_i hf
    simp only[Op.nomem,Op.noeff,Op.fresh,hc,hf,and_self]
   ·cases h
  ·rename_i hc
   simp only[Op.nomem,Op.noeff,Op.fresh,hc,and_self]
  ·cases h
 ·cases h
theorem PanA.nf {o:Oper} {t t0:List V} (he:nfEq t0 t) (h:PanA P o t m pv):PanA P o t0 m pv:=by
 obtain⟨p,h1,h2,h3⟩:=h
 exact⟨p,h1,h2,by rw[he.evN];exact h3⟩
theorem PanA.put {o:Oper} {dst:Option Tmp} {u:V} (h:∀d,dst=some d→d∉o.looksAt ops):PanA P o (putL t dst u) m pv↔PanA P o t m pv:=by
 have hE:∀x∈o.op.operands.toList,evN (putL t dst u) x=evN t x:=fun x hx=>congrArg V.nf (ev_put fun d hd hxd=>h d hd (by
  subst hxd
  exact List.mem_append_left _ (List.mem_filterMap.2 ⟨.tmp d,by simpa using hx,rfl⟩)))
 constructor
 ·rintro⟨p,h1,h2,h3⟩
  exact⟨p,h1,h2,fun B w0 N S t' a w hs hr=>h3 B w0 N S t' a w hs fun x hx=>by rw[hE x hx];exact hr x hx⟩
 ·rintro⟨p,h1,h2,h3⟩
  exact⟨p,h1,h2,fun B w0 N S t' a w hs hr=>h3 B w0 N S t' a w hs fun x hx=>by rw[←hE x hx];exact hr x hx⟩
theorem aOpP_spec {o:Oper} {K:St→Prop} {t0:List V} (h:aOpP P T pv ops o ⟨t,m⟩ K) (he:nfEq t0 t):(∃v m' t',YieldsA P T ops o t0 m v m'∧nfEq (putL t0 o.dst v) t'∧K ⟨t',m'⟩)∨(mayB T o=true∧PanA P o t0 m pv):=by
 simp only[aOpP] at h
 cases hb:mayB T o<;>simp only[hb] at h
 ·exact .inl (aOp_spec h he)
 ·rcases h with h|h
  ·exact .inl (aOp_spec h he)
  ·exact .inr ⟨rfl,h.nf he⟩
def awpAnyP (P:Program) (T:Tab) (pv:Option Value) (ops:Array Oper) (Q:St→Prop):Nat→Array Bool→St→Prop
 |0,listed,st=>Region.ready .any ops listed=[]∧Q st
 |fuel+1,listed,st=>
  (Region.ready .any ops listed=[]→Q st)∧
  ∀i∈Region.ready .any ops listed,match ops[i]? with
   |none=>awpAnyP P T pv ops Q fuel (listed.setIfInBounds i true) st
   |some o=>aOpN P T ops o st (awpAnyP P T pv ops Q fuel (listed.setIfInBounds i true))∨(mayB T o=true∧PanA P o st.t st.m pv)
theorem panA_wp (hs:Sat B w0 N S t m a w) {o:Oper} {K':Act→World→Prop} {Q:Exit→Act→World→Prop} (hQ:∀p a w,pv=some p→Low B.keep B.ref w→a.defers=B.defers→Q (.panic [{v:=p,recovered:=false}]) a w) (h:PanA P o t m pv):
  if Region.wanted o (yielded ops a.tmps) then o.wp P a w K' Q∨(o.asks P a w∧LetsOut Q) else K' (a.put o.dst undef) w:=by
 obtain⟨p,hp,hg,h⟩:=h
 have hw:Region.wanted o (yielded ops a.tmps)=true:=by simp[Region.wanted,hg]
 rw[if_pos hw]
 exact .inl (h B w0 N S t a w hs (fun x _=>hs.evN x) K' Q fun w' hl=>hQ p a w' hp hl hs.nodef)
theorem any_soundP (hT:TOk P T) {K:St→Prop} {Q:Exit→Act→World→Prop} (hQ:∀p a w,pv=some p→Low B.keep B.ref w→a.defers=B.defers→Q (.panic [{v:=p,recovered:=false}]) a w) (hKQ:∀a w,OkSt B w0 K a w→Q .normal a w):∀(fuel:Nat) (listed:Array Bool) (a:Act) (w:World),
  OkSt B w0 (awpAnyP P T pv ops K fuel listed) a w→wpAny P .any ops Q fuel listed a w
 |0,listed,a,w,⟨N,S,t,m,hs,h⟩=>⟨h.1,hKQ _ _ ⟨N,S,t,m,hs,h.2⟩⟩
 |fuel+1,listed,a,w,⟨N,S,t,m,hs,h⟩=>by
  refine⟨fun h0=>hKQ _ _ ⟨N,S,t,m,hs,h.1 h0⟩,fun i hi=>?_⟩
  have:=h.2 i hi
  unfold wpOp
  cases ho:ops[i]? with
  |none=>rw[ho] at this;exact any_soundP hT hQ hKQ fuel _ a w ⟨N,S,t,m,hs,this⟩
  |some o=>
   rw[ho] at this
   rcases this with⟨v,m',h1,h2⟩|⟨_,hp⟩
   ·exact step_sound hT hs h1 h2 fun a w h=>any_soundP hT hQ hKQ fuel _ a w h
   ·exact panA_wp hs hQ hp
theorem any_firstP {A:List (List Nat)} (hA:ancOk ops A=true) {Q:St→Prop} {i:Nat} {oi:Oper} (hi:ops[i]?=some oi):
  ∀(fuel:Nat) (listed:Array Bool) (t:List V) (m:List (Option Bk)) (v:V) (m':List (Option Bk)),Closed ops listed→
   (∀j oj,ops[j]?=some oj→j≠i→listed.getD j true=false→(A.getD j []).contains i=false→oi.apart ops oj=true∧compat T.fm oi oj=true)→
   i∈Region.ready .any ops listed→YieldsA P T ops oi t m v m'→
   awpAnyP P T pv ops Q fuel (listed.setIfInBounds i true) ⟨putL t oi.dst v,m'⟩→awpAnyP P T pv ops Q (fuel+1) listed ⟨t,m⟩:=by
 intro fuel
 induction fuel with
 |zero=>
  intro listed t m v m' _ _ hr hy H
  refine⟨fun h=>(by rw[h] at hr;cases hr),fun j hj=>?_⟩
  by_cases hji:j=i
  ·subst hji;rw[hi];exact .inl ⟨v,m',hy,H⟩
  ·have:=ready_mono hj hji
   rw[H.1] at this
   cases this
 |succ fuel ih=>
  intro listed t m v m' hcl hfree hr hy H
  refine⟨fun h=>(by rw[h] at hr;cases hr),fun j hj=>?_⟩
  by_cases hji:j=i
  ·subst hji;rw[hi];exact .inl ⟨v,m',hy,H⟩
  have h1:=H.2 j (ready_mono hj hji)
  obtain⟨hjun,oj,hoj,hall⟩:=mem_ready.1 hj
  rw[hoj] at h1⊢
  have hnot:(A.getD j []).contains i=false:=by
   cases hc:(A.getD j []).contains i with
   |false=>rfl
   |true=>
    have h0:=(mem_ready.1 hr).1
    have hl:=anc_listed hA hcl (j+1) j (by omega) oj hoj hall i hc
    rcases Nat.lt_or_ge i listed.size with h'|h'
    ·simp[h'] at h0 hl;rw[h0] at hl;cases hl
    ·simp[Array.getElem?_eq_none h'] at hl
  obtain⟨hap,hcp⟩:=hfree j oj hoj hji hjun hnot
  obtain⟨p1,p2,p3⟩:=Oper.apart_spec hap
  rcases h1 with h1|⟨hx,h1⟩
  rotate_left
  ·have hc:Op.nomem T.fm oi.op=true:=by
    obtain⟨n1,n2,n3⟩:=may_not hx
    simpa[compat,n1,n2,n3] using hcp
   have:=hy.noeff (noeff_of_nomem hc)
   subst this
   exact .inr ⟨hx,(PanA.put p1).1 h1⟩
  obtain⟨vj,mj,hyj,hn⟩:=h1
  replace hyj:=(YieldsA.put p1).1 hyj
  have hcl':=hcl.add hj
  have hfree':∀k ok,ops[k]?=some ok→k≠i→(listed.setIfInBounds j true).getD k true=false→(A.getD k []).contains i=false→oi.apart ops ok=true∧compat T.fm oi ok=true:=fun k ok hk hki hun hno=>by
   refine hfree k ok hk hki ?_ hno
   by_cases hjk:j=k
   ·subst hjk;exact hjun
   ·rw[getD_set_ne true hjk] at hun;exact hun
  have hn':awpAnyP P T pv ops Q fuel ((listed.setIfInBounds j true).setIfInBounds i true) ⟨putL (putL t oj.dst vj) oi.dst v,mj⟩:=by
   rw[←putL_comm v vj p2,Array.setIfInBounds_comm _ _ hji]
   exact hn
  have fin:∀mj',YieldsA P T ops oj t m vj mj'→YieldsA P T ops oi t mj' v mj→aOpN P T ops oj ⟨t,m⟩ (awpAnyP P T pv ops Q (fuel+1) (listed.setIfInBounds j true)):=fun mj' h1 h2=>
   ⟨vj,mj',h1,ih (listed.setIfInBounds j true) _ _ v mj hcl' hfree' (ready_mono hr (Ne.symm hji)) ((YieldsA.put p3).2 h2) hn'⟩
  simp only[compat,Bool.or_eq_true,Bool.and_eq_true] at hcp
  rcases hcp with(hcp|hcp)|⟨hc1,hc2|hc2⟩
  ·have:=hy.noeff (noeff_of_nomem hcp)
   subst this
   exact .inl<|fin mj hyj (hy.nomem hcp mj)
  ·have:=hyj.noeff (noeff_of_nomem hcp)
   subst this
   exact .inl<|fin m (hyj.nomem hcp m) hy
  ·have e1:=hy.noeff hc1
   subst e1
   have e2:=hyj.noeff hc2
   subst e2
   exact .inl<|fin _ hyj hy
  ·have e1:=hy.noeff hc1
   subst e1
   exact .inl<|fin _ hyj (hy.up hc1 (hyj.fresh hc2))
theorem any_pullP {A:List (List Nat)} (hA:ancOk ops A=true) {Q:St→Prop} {i:Nat} {oi:Oper} (hi:ops[i]?=some oi):
  ∀(fuel:Nat) (listed:Array Bool) (t:List V) (m:List (Option Bk)) (v:V),Closed ops listed→
   (∀j oj,ops[j]?=some oj→j≠i→listed.getD j true=false→(A.getD j []).contains i=false→oi.apart ops oj=true)→
   i∈Region.ready .any ops listed→(∀m2,YieldsA P T ops oi t m2 v m2)→
   awpAnyP P T pv ops Q fuel (listed.setIfInBounds i true) ⟨putL t oi.dst v,m⟩→awpAnyP P T pv ops Q (fuel+1) listed ⟨t,m⟩:=by
 intro fuel
 induction fuel with
 |zero=>
  intro listed t m v _ _ hr hy H
  refine⟨fun h=>(by rw[h] at hr;cases hr),fun j hj=>?_⟩
  by_cases hji:j=i
  ·subst hji;rw[hi];exact .inl ⟨v,m,hy m,H⟩
  ·have:=ready_mono hj hji
   rw[H.1] at this
   cases this
 |succ fuel ih=>
  intro listed t m v hcl hfree hr hy H
  refine⟨fun h=>(by rw[h] at hr;cases hr),fun j hj=>?_⟩
  by_cases hji:j=i
  ·subst hji;rw[hi];exact .inl ⟨v,m,hy m,H⟩
  have h1:=H.2 j (ready_mono hj hji)
  obtain⟨hjun,oj,hoj,hall⟩:=mem_ready.1 hj
  rw[hoj] at h1⊢
  have hnot:(A.getD j []).contains i=false:=by
   cases hc:(A.getD j []).contains i with
   |false=>rfl
   |true=>
    have h0:=(mem_ready.1 hr).1
    have hl:=anc_listed hA hcl (j+1) j (by omega) oj hoj hall i hc
    rcases Nat.lt_or_ge i listed.size with h'|h'
    ·simp[h'] at h0 hl;rw[h0] at hl;cases hl
    ·simp[Array.getElem?_eq_none h'] at hl
  have hap:=hfree j oj hoj hji hjun hnot
  obtain⟨p1,p2,p3⟩:=Oper.apart_spec hap
  rcases h1 with h1|⟨hx,h1⟩
  rotate_left
  ·exact .inr ⟨hx,(PanA.put p1).1 h1⟩
  obtain⟨vj,mj,hyj,hn⟩:=h1
  replace hyj:=(YieldsA.put p1).1 hyj
  have hcl':=hcl.add hj
  have hfree':∀k ok,ops[k]?=some ok→k≠i→(listed.setIfInBounds j true).getD k true=false→(A.getD k []).contains i=false→oi.apart ops ok=true:=fun k ok hk hki hun hno=>by
   refine hfree k ok hk hki ?_ hno
   by_cases hjk:j=k
   ·subst hjk;exact hjun
   ·rw[getD_set_ne true hjk] at hun;exact hun
  have hn':awpAnyP P T pv ops Q fuel ((listed.setIfInBounds j true).setIfInBounds i true) ⟨putL (putL t oj.dst vj) oi.dst v,mj⟩:=by
   rw[←putL_comm v vj p2,Array.setIfInBounds_comm _ _ hji]
   exact hn
  exact .inl ⟨vj,mj,hyj,ih (listed.setIfInBounds j true) _ _ v hcl' hfree' (ready_mono hr (Ne.symm hji)) (fun m2=>(YieldsA.put p3).2 (hy m2)) hn'⟩
theorem any_lexP {A:List (List Nat)} (hA:ancOk ops A=true) {Q:St→Prop}:∀(l:List Oper) (k:Nat) (listed:Array Bool) (t0 t:List V) (m:List (Option Bk)),nfEq t0 t→Closed ops listed→(∀j,l[j]?=ops[k+j]?)→
  lex2 T.fm ops A l.length k listed=true→awpOps P T ops l ⟨t,m⟩ Q→awpAnyP P T pv ops (fun st=>∃t',nfEq st.t t'∧Q ⟨t',st.m⟩) l.length listed ⟨t0,m⟩
 |[],_,_,t0,t,m,he,_,_,hB,h=>⟨by simpa[lex2] using hB,t,he,h⟩
 |o::l,k,listed,t0,t,m,he,hcl,hl,hB,h=>by
  have h0:ops[k]?=some o:=by simpa using(hl 0).symm
  simp only[List.length_cons,lex2,Bool.and_eq_true] at hB
  obtain⟨⟨hr,hf⟩,hB'⟩:=hB
  simp only[awpOps] at h
  obtain⟨v,m',t',hy,he',hK⟩:=aOp_spec h he
  have hr':k∈Region.ready .any ops listed:=by simpa using hr
  refine any_firstP hA h0 l.length listed t0 m v m' hcl ?_ hr' hy
   (any_lexP hA l (k+1) _ _ t' m' he' (hcl.add hr') (fun j=>by have:=hl (j+1);simpa[Nat.add_assoc,Nat.add_comm 1 j] using this) hB' hK)
  intro j oj hj hne hun hno
  simp only[free2,h0,List.all_eq_true,List.mem_range] at hf
  have h1:=hf j (Array.getElem?_eq_some_iff.1 hj).1
  simp only[hj,Bool.or_eq_true,beq_iff_eq,hne,false_or,hun,Bool.false_eq_true,hno,Bool.and_eq_true] at h1
  exact h1
theorem plan_soundP {A:List (List Nat)} (hA:ancOk ops A=true) {Q:St→Prop}:∀(p:Plan) (fuel:Nat) (listed:Array Bool) (t0 t:List V) (m:List (Option Bk)),nfEq t0 t→Closed ops listed→planOk T.fm ops A p fuel listed=true→awpPlanP P T pv ops p ⟨t,m⟩ Q→
  (p.cov ops listed=true→awpAnyP P T pv ops (fun st=>∃t',nfEq st.t t'∧Q ⟨t',st.m⟩) fuel listed ⟨t0,m⟩)∧
  (∀fuel',fuel=fuel'+1→∀j o,j∈p.alts→ops[j]?=some o→aOpN P T ops o ⟨t0,m⟩ (awpAnyP P T pv ops (fun st=>∃t',nfEq st.t t'∧Q ⟨t',st.m⟩) fuel' (listed.setIfInBounds j true))∨(mayB T o=true∧PanA P o t0 m pv)):=by
 intro p
 induction p with
 |done=>
  intro fuel listed t0 t m he hcl hok h
  have hr:Region.ready .any ops listed=[]:=by simpa[planOk] using hok
  refine⟨fun _=>?_,fun _ _ _ _ hj=>by simp[Plan.alts] at hj⟩
  cases fuel with
  |zero=>exact⟨hr,t,he,h⟩
  |succ fuel=>exact⟨fun _=>⟨t,he,h⟩,fun i hi=>by rw[hr] at hi;cases hi⟩
 |one i p ih=>
  intro fuel listed t0 t m he hcl hok h
  refine⟨fun _=>?_,fun _ _ _ _ hj=>by simp[Plan.alts] at hj⟩
  cases fuel with
  |zero=>simp[planOk] at hok
  |succ fuel=>
   simp only[planOk,Bool.and_eq_true] at hok
   obtain⟨hr,hf,hcov,hok⟩:=hok
   simp only[awpPlanP] at h
   split at h
   rotate_left
   ·exact h.elim
   rename_i o ho
   obtain⟨v,m',t',hy,he',hK⟩:=aOp_spec h he
   have hr':i∈Region.ready .any ops listed:=by simpa using hr
   refine any_firstP hA ho fuel listed t0 m v m' hcl ?_ hr' hy ((ih fuel _ _ t' m' he' (hcl.add hr') hok hK).1 hcov)
   intro j oj hj hne hun hno
   simp only[free2,ho,List.all_eq_true,List.mem_range] at hf
   have h1:=hf j (Array.getElem?_eq_some_iff.1 hj).1
   simp only[hj,Bool.or_eq_true,beq_iff_eq,hne,false_or,hun,Bool.false_eq_true,hno,Bool.and_eq_true] at h1
   exact h1
 |pull i p ih=>
  intro fuel listed t0 t m he hcl hok h
  refine⟨fun _=>?_,fun _ _ _ _ hj=>by simp[Plan.alts] at hj⟩
  cases fuel with
  |zero=>simp[planOk] at hok
  |succ fuel=>
   simp only[planOk,Bool.and_eq_true] at hok
   obtain⟨hr,hf,hcov,hok⟩:=hok
   simp only[awpPlanP] at h
   split at h
   rotate_left
   ·exact h.elim
   rename_i o ho
   split at h
   rotate_left
   ·exact h.elim
   rename_i hg
   obtain⟨v,hv,hK⟩:=h
   rw[putK_eq] at hK
   have hr':i∈Region.ready .any ops listed:=by simpa using hr
   have hy:∀m2,YieldsA P T ops o t0 m2 v m2:=fun m2=> .inl ⟨hg,by rw[he.evN];exact hv m2⟩
   have he':nfEq (putL t0 o.dst v) (putL t o.dst v):=by
    unfold nfEq putL at*
    cases o.dst with
    |none=>exact he
    |some d=>rw[List.map_set,List.map_set,he]
   refine any_pullP hA ho fuel listed t0 m v hcl ?_ hr' hy ((ih fuel _ _ (putL t o.dst v) m he' (hcl.add hr') hok hK).1 hcov)
   intro j oj hj hne hun hno
   simp only[freeP,ho,List.all_eq_true,List.mem_range] at hf
   have h1:=hf j (Array.getElem?_eq_some_iff.1 hj).1
   simp only[hj,Bool.or_eq_true,beq_iff_eq,hne,false_or,hun,Bool.false_eq_true,hno] at h1
   exact h1
 |alt i p q ihp ihq=>
  intro fuel listed t0 t m he hcl hok h
  cases fuel with
  |zero=>simp[planOk] at hok
  |succ fuel=>
   simp only[planOk,Bool.and_eq_true] at hok
   obtain⟨hr,hcov,hokp,hokq⟩:=hok
   simp only[awpPlanP] at h
   obtain⟨h1,h2⟩:=h
   split at h1
   rotate_left
   ·exact h1.elim
   rename_i o ho
   have hr':i∈Region.ready .any ops listed:=by simpa using hr
   have hi:aOpN P T ops o ⟨t0,m⟩ (awpAnyP P T pv ops (fun st=>∃t',nfEq st.t t'∧Q ⟨t',st.m⟩) fuel (listed.setIfInBounds i true))∨(mayB T o=true∧PanA P o t0 m pv):=by
    rcases aOpP_spec h1 he with⟨v,m',t',hy,he',hK⟩|h1
    ·exact .inl ⟨v,m',hy,(ihp fuel _ _ t' m' he' (hcl.add hr') hokp hK).1 hcov⟩
    ·exact .inr h1
   have hq:=(ihq (fuel+1) listed t0 t m he hcl hokq h2).2
   have alts:∀j o',j∈(Plan.alt i p q).alts→ops[j]?=some o'→aOpN P T ops o' ⟨t0,m⟩ (awpAnyP P T pv ops (fun st=>∃t',nfEq st.t t'∧Q ⟨t',st.m⟩) fuel (listed.setIfInBounds j true))∨(mayB T o'=true∧PanA P o' t0 m pv):=by
    intro j o' hj ho'
    simp only[Plan.alts,List.mem_cons] at hj
    rcases hj with rfl|hj
    ·rw[ho] at ho';cases ho'
     exact hi
    ·exact hq fuel rfl j o' hj ho'
   refine⟨fun hc=>⟨fun h0=>(by rw[h0] at hr';cases hr'),fun j hj=>?_⟩,fun fuel' e j o' hj ho'=>by cases e;exact alts j o' hj ho'⟩
   have hj':j∈(Plan.alt i p q).alts:=by
    simp only[Plan.cov,List.all_eq_true] at hc
    simpa using hc j hj
   obtain⟨_,oj,hoj,_⟩:=mem_ready.1 hj
   rw[hoj]
   exact alts j oj hj' hoj
 |stop=>
  intro fuel listed t0 t m he hcl hok h
  exact⟨fun hc=>by simp[Plan.cov] at hc,fun _ _ _ _ hj=>by simp[Plan.alts] at hj⟩
theorem drawP_sound (hT:TOk P T) (hm:P.follows .mixedOrders=true) {K:St→Prop} {Q:Exit→Act→World→Prop} (hQ:∀p a w,pv=some p→Low B.keep B.ref w→a.defers=B.defers→Q (.panic [{v:=p,recovered:=false}]) a w) (hKQ:∀a w,OkSt B w0 K a w→Q .normal a w) {id:Nat}
  (h:OkSt B w0 (fun st=>DrawP P T pv ops st K) a w):(Code.region id ops true).wp P Q a w:=by
 refine wp_region_any hm (any_soundP (B:=B) (w0:=w0) (pv:=pv) hT hQ (K:=fun st=>∃t',nfEq st.t t'∧K ⟨t',st.m⟩) (fun a w ⟨N,S,t,m,hs,t',he,h⟩=>hKQ a w ⟨N,S,t',m,hs.nf he,h⟩) _ _ _ _ ?_)
 obtain⟨N,S,t,m,hs,h⟩:=h
 have hcl:Closed ops (Array.replicate ops.size false):=by
  intro j o _ hj
  rcases Nat.lt_or_ge j ops.size with h'|h'
  ·simp[h'] at hj
  ·simp[h'] at hj
 have:awpAnyP P T pv ops (fun st=>∃t',nfEq st.t t'∧K ⟨t',st.m⟩) ops.size (Array.replicate ops.size false) ⟨t,m⟩:=by
  obtain⟨pl,h⟩:=h
  cases pl with
  |none=>
   obtain⟨hd,h⟩:=h
   simp only[drawOk,Bool.and_eq_true] at hd
   have:=any_lexP (P:=P) (T:=T) (pv:=pv) hd.1 (Q:=K) ops.toList 0 (Array.replicate ops.size false) t t m rfl hcl (by simp) (by simpa using hd.2) h
   simpa using this
  |some p=>
   obtain⟨hd,h⟩:=h
   simp only[Bool.and_eq_true] at hd
   exact(plan_soundP hd.1 p _ _ t t m rfl hcl hd.2.2 h).1 hd.2.1
 exact⟨N,S,t,m,hs.drewM,this⟩
theorem awpP_sound (hT:TOk P T) (hm:P.follows .mixedOrders=true) (hg:FrOk B):∀(c:Code) (K:Ex→St→Prop) (a:Act) (w:World),OkSt B w0 (fun st=>awpP P T pv c st K) a w→c.wp P (QKP B w0 pv K) a w:=by
 have hQ:∀K p a w,pv=some p→Low B.keep B.ref w→a.defers=B.defers→QKP B w0 pv K (.panic [{v:=p,recovered:=false}]) a w:=fun K p a w h0 h1 h2=>⟨p,h0,rfl,h1,h2⟩
 intro c
 induction c with
 |skip=>rintro K a w ⟨N,S,t,m,hs,h⟩;exact wp_skip ⟨N,S,t,m,hs,h⟩
 |region id ops draw=>
  rintro K a w ⟨N,S,t,m,hs,h⟩
  simp only[awpP] at h
  cases draw with
  |true=>
   simp only[if_true] at h
   exact drawP_sound hT hm (hQ K) (K:=K .normal) (fun a w h=>h) ⟨N,S,t,m,hs,h⟩
  |false=>
   simp only[Bool.false_eq_true,if_false] at h
   exact wp_region_list (opsP_sound hT (hQ K) (K:=K .normal) (fun a w h=>h) ops.toList a w ⟨N,S,t,m,hs,h⟩)
 |seq x y ihx ihy=>
  rintro K a w ⟨N,S,t,m,hs,h⟩
  simp only[awpP] at h
  refine wp_seq (Go.wp_mono (ihx _ a w ⟨N,S,t,m,hs,h⟩) ?_)
  intro e a w h
  cases e<;>simp only[QKP,Exit.then] at h⊢
  ·exact ihy K a w h
  all_goals exact h
 |cond c x y ihx ihy=>
  rintro K a w ⟨N,S,t,m,hs,h⟩
  simp only[awpP] at h
  have hr:=hs.ev c
  generalize hu:a.eval c=u at hr
  split at h
  ·rename_i hev
   rw[hev] at hr
   cases hr
   exact wp_cond hu (ihx K a w ⟨N,S,t,m,hs,h⟩)
  ·rename_i hev
   rw[hev] at hr
   cases hr
   exact wp_cond hu (ihy K a w ⟨N,S,t,m,hs,h⟩)
  ·rename_i b d hev
   rw[hev] at hr
   cases hr
   have h:=h b rfl
   rw[setK_eq] at h
   have hb:t[d]?=some (.cv (.bool b)):=by
    simp only[ev,List.getD_eq_getElem?_getD] at hev
    cases hd:t[d]? with
    |none=>rw[hd] at hev;cases hev
    |some v=>rw[hd] at hev;simp at hev;rw[hev]
   have hs':=hs.nf (nfEq.mark (rfl:nfEq t t) hb)
   refine wp_cond hu ?_
   cases b
   ·exact ihy K a w ⟨N,S,_,m,hs',h⟩
   ·exact ihx K a w ⟨N,S,_,m,hs',h⟩
  ·exact h.elim
 |block id x ih=>
  rintro K a w ⟨N,S,t,m,hs,h⟩
  simp only[awpP] at h
  refine wp_block (Go.wp_mono (ih _ a w ⟨N,S,t,m,hs,h⟩) ?_)
  intro e a w h
  cases e<;>simp only[QKP,Exit.inBlock] at h⊢
  ·exact h
  ·rename_i id'
   by_cases he:id'=id
   ·simp only[he,if_true] at h⊢;exact h
   ·simp only[he,if_false] at h⊢;exact h
  all_goals exact h
 |loop c ih=>
  rintro K a w ⟨N,S,t,m,hs,h⟩
  simp only[awpP,LoopA] at h
  obtain⟨rows,h⟩:=h
  split at h
  ·rename_i n _ _ _
   have hex0:∃n,OkSt B w0 (fun st=>unroll (awpP P T pv c) n st K) a w:=⟨n,N,S,t,m,hs,h⟩
   let meas (a:Act) (w:World):Nat:=@dite _ (∃n,OkSt B w0 (fun st=>unroll (awpP P T pv c) n st K) a w) (Classical.propDecidable _) (fun h=>(exists_least h).choose) (fun _=>0)
   refine wp_loop (fun a w=>∃n,OkSt B w0 (fun st=>unroll (awpP P T pv c) n st K) a w) meas hex0 ?_
   intro a w hex
   have hmeas:meas a w=(exists_least hex).choose:=by simp only[meas,dif_pos hex]
   generalize hk:(exists_least hex).choose=k at hmeas
   have hk':=(exists_least hex).choose_spec.1
   rw[hk] at hk'
   obtain⟨N,S,t,m,hs,h⟩:=hk'
   cases k with
   |zero=>exact h.elim
   |succ k=>
    simp only[unroll] at h
    refine Go.wp_mono (ih _ a w ⟨N,S,t,m,hs,h⟩) ?_
    intro e a' w' h
    cases e<;>simp only[QKP,Exit.then] at h⊢
    ·have hex':∃n,OkSt B w0 (fun st=>unroll (awpP P T pv c) n st K) a' w':=⟨k,h⟩
     refine⟨hex',?_⟩
     have:meas a' w'≤k:=by
      simp only[meas,dif_pos hex']
      exact(exists_least hex').choose_spec.2 _ h
     omega
    all_goals exact h
  obtain⟨N1,S1,t1,m1,hs1,X,ups,mups,I,μ,x0,hI0,hW0,hround⟩:=rows_sound rows hs h
  rw[head_eq] at hW0
  let Good (x:X) (a:Act) (w:World):Prop:=I x∧∃N S,Sat B w0 N S ((updL (ups x) (forgetL .un (Code.wr c) t1)).map (V.clean (updL (mups x) (forgetL none (Code.wr c) m1)))) (updL (mups x) (forgetL none (Code.wr c) m1)) a w
  obtain⟨N2,hs2⟩:=hs1.weaken hg hW0
  let meas (a:Act) (w:World):Nat:=@dite _ (∃n,∃x,Good x a w∧μ x=n) (Classical.propDecidable _) (fun h=>(exists_least h).choose) (fun _=>0)
  refine wp_loop (fun a w=>∃x,Good x a w) meas ⟨x0,hI0,N2,S1,hs2⟩ ?_
  rintro a w ⟨x1,hx1⟩
  have hex:∃n,∃x,Good x a w∧μ x=n:=⟨_,x1,hx1,rfl⟩
  obtain⟨x,⟨hIx,N3,S3,hs3⟩,hμ⟩:=(exists_least hex).choose_spec.1
  have hmeas:meas a w=μ x:=by simp only[meas,dif_pos hex,hμ]
  have hr:=hround x hIx
  rw[head_eq] at hr
  refine Go.wp_mono (ih _ a w ⟨N3,S3,_,_,hs3,hr⟩) ?_
  intro e a' w' h
  cases e<;>simp only[QKP,Exit.then] at h⊢
  ·obtain⟨N4,S4,t4,m4,hs4,x',hI',hlt,hW⟩:=h
   rw[head_eq] at hW
   obtain⟨N5,S5,hs5⟩:=hs4.weakenR hg hW
   have hg:Good x' a' w':=⟨hI',N5,S5,hs5⟩
   refine⟨⟨x',hg⟩,?_⟩
   have hex':∃n,∃x,Good x a' w'∧μ x=n:=⟨_,x',hg,rfl⟩
   have:meas a' w'≤μ x':=by
    simp only[meas,dif_pos hex']
    exact(exists_least hex').choose_spec.2 _ ⟨x',hg,rfl⟩
   omega
  all_goals exact h
 |exit id=>rintro K a w ⟨N,S,t,m,hs,h⟩;exact wp_exit ⟨N,S,t,m,hs,h⟩
 |ret=>rintro K a w ⟨N,S,t,m,hs,h⟩;exact wp_ret ⟨N,S,t,m,hs,h⟩
 |scope x ih=>
  rintro K a w ⟨N,S,t,m,hs,h⟩
  simp only[awpP] at h
  refine wp_scope_straight (Go.wp_mono (ih K a w ⟨N,S,t,m,hs,h⟩) ?_)
  intro e a w h
  cases e<;>simp only[QKP,Exit.noGoto] at h⊢ <;>exact h
 |rangeFunc f ps x y ih1 ih2=>rintro K a w ⟨N,S,t,m,hs,h⟩;exact h.elim
 |label l=>rintro K a w ⟨N,S,t,m,hs,h⟩;exact wp_label ⟨N,S,t,m,hs,h⟩
 |goto l=>rintro K a w ⟨N,S,t,m,hs,h⟩;exact h.elim
 |refuse why=>rintro K a w ⟨N,S,t,m,hs,h⟩;exact h.elim
theorem mends_of {sd:List V→List Nat} (hT:TOk P T) (hm:P.follows .mixedOrders=true) {f:FuncId} {fn:Func} (hf:P.funcs[f]?=some fn) (hn:(fn.name== "runtime.NumGoroutine")=false) {args:List V} {m0:List Bk} {out:Except Value (V×List Bk)}
  (h16:(decide (args.length≤fn.ntmps)&&decide (m0.length≤16))=true) (h:BodyE sd P T fn args m0 out):MEnds P f args m0 out:=by
 simp only[Bool.and_eq_true,decide_eq_true_eq] at h16
 unfold BodyE at h
 cases hb:fn.body with
 |none=>rw[hb] at h;exact h.elim
 |some c=>
  rw[hb] at h
  have hF:∃fn,P.funcs[f]?=some fn∧(fn.name== "runtime.NumGoroutine")=false∧fn.body.isNone=false:=⟨fn,hf,hn,by rw[hb];rfl⟩
  simp only[enterMK,forceAll_eq,forceM_eq] at h
  cases out with
  |ok r=>
   refine⟨hF,fun w vs ns So hmem hvs=>?_⟩
   refine calls_of_wp hf hb (Go.wp_mono (awpP_sound (B:=frM w ns So fn.ntmps) (w0:=w) hT hm ⟨by intro p hp;simp[frM] at hp,rfl⟩ c _ _ w ⟨_,_,_,_,sat_enterM hmem hvs fn.ntmps h16.1 h16.2,h⟩) ?_)
   have key:=doneM_ret (P:=P) (sd:=sd) (st:=false) (fn:=fn) (res:=r.1) (m1:=r.2) hT hmem
   intro e a w' h
   cases e<;>simp only[QKP] at h<;>first|exact h.elim|skip
   ·obtain⟨N,S,t,m,hs,r',he,h⟩:=h;cases he;exact key a w' ⟨N,S,t,m,hs,h,fun e=>by cases e⟩
   ·obtain⟨N,S,t,m,hs,r',he,h⟩:=h;cases he;exact h.elim
   ·obtain⟨N,S,t,m,hs,r',he,h⟩:=h;cases he;exact key a w' ⟨N,S,t,m,hs,h,fun e=>by cases e⟩
   ·obtain⟨p,hp,_⟩:=h;cases hp
  |error p0=>
   refine⟨hF,fun w vs ns So hmem hvs=>?_⟩
   refine calls_of_wp hf hb (Go.wp_mono (awpP_sound (B:=frM w ns So fn.ntmps) (w0:=w) hT hm ⟨by intro p hp;simp[frM] at hp,rfl⟩ c _ _ w ⟨_,_,_,_,sat_enterM hmem hvs fn.ntmps h16.1 h16.2,h⟩) ?_)
   intro e a w' h
   cases e<;>simp only[QKP] at h<;>try(obtain⟨_,_,_,_,_,_,he,h⟩:=h;cases he)
   ·obtain⟨p,hp,rfl,h1,h2⟩:=h
    cases hp
    exact⟨h2,rfl,h1⟩
   all_goals exact h.elim
theorem op_mpan {o:Oper} {E:Operand→V} {c:Call} {f:FuncId} {pre post av:List V} {m m1:List (Option Bk)} {ρ:List Nat} {m0:List Bk} {args0:List V} (hM:MPans P f args0 m0 p0) (ho:o.op= .call c) (hc:calleeV E c=some (f,pre,post))
  {ln:Bool} (hz:frzB ln m (pre++zA T E c.args.toList c.argTypes.toList++post)=some (av,m1)) (hab:abM ρ m1 ρ=some m0) (ha0:av.map (V.ab ρ m1)=args0) (hd:distinctB ρ=true):PanTr P o E m p0:=by
 subst ha0
 intro B w0 N0 S0 t a w hs0 hx next Q hQ
 obtain⟨us,hus,hcall⟩:=run_call0 (T:=T) ho hc hx hM.1
 obtain⟨N,S,hs,hav,_⟩:=frzB_sound hs0 hus hz
 have hρ:=abM_mem hab
 have hmem:=abM_ok hs hd (gf:=false) (fun e=>by cases e) hab
 have hargs:RelL (NamesOf (valsOf N ρ)) (oldS (S false)) w (av.map (V.ab ρ m1)) us:=⟨by simpa using hav.1,fun i v hv=>by
  rw[List.getElem?_map,Option.map_eq_some_iff] at hv
  obtain⟨v',hv',rfl⟩:=hv
  exact ab_rel hs (fun e=>by cases e) (hav.2 i v' hv')⟩
 unfold Oper.wp
 rw[hcall]
 simp only[Oper.upon]
 refine(hM.2 w us (valsOf N ρ) (S false) hmem hargs).mono ?_
 rintro e w' ⟨rfl,hlow⟩
 refine hQ w' (hs.low.trans (hlow.mono fun g hg=>⟨hs.base g hg,fun hb=>?_⟩))
 obtain⟨n,_,x,v,h1,h2⟩:=blks_valsOf hρ hs hb
 exact(hs.own n x v g h1 h2).1 hg
theorem mpan {o:Oper} {t:List V} {c:Call} {f:FuncId} {pre post av:List V} {m m1:List (Option Bk)} {ρ:List Nat} {m0:List Bk} {args0:List V} (hM:MPans P f args0 m0 p0) (hpv:pv=some p0)
  (ln:Bool:=false) (hg:o.guard=none:=by exact rfl) (ho:o.op= .call c:=by exact rfl) (hc:calleeV (evN t) c=some (f,pre,post):=by exact rfl) (hz:frzB ln m (pre++zA T (evN t) c.args.toList c.argTypes.toList++post)=some (av,m1):=by exact rfl)
  (_hr:(reach m1 64 (av.flatMap V.nm3) []).reverse=ρ:=by exact rfl) (hab:abM ρ m1 ρ=some m0:=by exact rfl) (ha0:av.map (V.ab ρ m1)=args0:=by exact rfl) (hd:distinctB ρ=true:=by exact rfl):PanA P o t m pv:=
 ⟨p0,hpv,hg,op_mpan (T:=T) hM ho hc hz hab ha0 hd⟩
theorem pan_op {o:Oper} {t:List V} {m:List (Option Bk)} {x:Operand} (hpv:pv=some p0) (hg:o.guard=none:=by exact rfl) (ho:o.op= .panic x:=by exact rfl) (hx:evN t x= .cv p0:=by exact rfl) (hp:∀w,(Instr.panic p0).run P w= .halt (.panic p0) w:=by exact fun _=>rfl):PanA P o t m pv:=by
 refine⟨p0,hpv,hg,fun B w0 N S t' a w hs hr next Q hQ=>?_⟩
 have h:=hr x (by rw[ho];simp[Op.operands])
 rw[hx] at h
 generalize hu:a.eval x=u at h
 cases h
 unfold Oper.wp
 have e:(execOp a.eval o).run P w= .halt (.panic p0) w:=by
  unfold execOp
  simp only[ho,hu]
  simp[hp w]
 rw[e]
 exact hQ w hs.low
end
end Go.Proofs.YtdccglkagfdooaaGreatDoor
