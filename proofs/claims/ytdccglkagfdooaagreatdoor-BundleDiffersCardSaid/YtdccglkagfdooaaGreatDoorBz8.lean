/- Texts joined by pack.py: XSxM -/
import Derived.Test.YtdccglkagfdooaaGreatDoorBz7
namespace Go.Proofs.YtdccglkagfdooaaGreatDoor
open Go.RowKit
section
variable {P:Program} {T:Tab} {B:Fr} {w0:World} {N:Names} {S:Sets} {t t':List V} {m:List (Option Bk)} {a:Act} {w:World} {ops:Array Oper}
def putL (t:List V) (dst:Option Tmp) (v:V):List V:=
 match dst with
 |none=>t
 |some d=>t.set d v
theorem putK_eq (t:List V) (K:St→Prop) (dst:Option Tmp) (v:V) (m:List (Option Bk)):putK t K dst v m=K ⟨putL t dst v,m⟩:=by
 cases dst with
 |none=>rfl
 |some d=>simp only[putK,putL,k_eq,setK_eq]
def OTr (P:Program) (T:Tab) (o:Oper) (E:Operand→V) (m:List (Option Bk)) (v:V) (m':List (Option Bk)):Prop:=
 ∀K:V→List (Option Bk)→Prop,K v m'→aCore P T o E m K
def YieldsA (P:Program) (T:Tab) (ops:Array Oper) (o:Oper) (t:List V) (m:List (Option Bk)) (v:V) (m':List (Option Bk)):Prop:=
 (o.guard=none∧OTr P T o (evN t) m v m')∨
 ∃j want d c,o.guard=some (j,want)∧(ops[j]?).bind (·.dst)=some d∧(t[d]?).map V.nf=some (.cv c)∧((c= .bool want∧OTr P T o (evN t) m v m')∨(c≠ .bool want∧v= .cv undef∧m'=m))
def aOpN (P:Program) (T:Tab) (ops:Array Oper) (o:Oper) (st:St) (K:St→Prop):Prop:=
 ∃v m',YieldsA P T ops o st.t st.m v m'∧K ⟨putL st.t o.dst v,m'⟩
def nfEq (t t':List V):Prop:=t.map V.nf=t'.map V.nf
theorem nf_nf (v:V):v.nf.nf=v.nf:=by cases v<;>rfl
theorem nfEq.get (h:nfEq t t') (i:Nat):(t[i]?).map V.nf=(t'[i]?).map V.nf:=by
 have:=congrArg (fun l=>l[i]?) h
 simpa using this
theorem nfEq.evN (h:nfEq t t'):evN t=evN t':=by
 funext x
 cases x with
 |tmp i=>
  have:=h.get i
  simp only[Go.Proofs.YtdccglkagfdooaaGreatDoor.evN,ev,List.getD_eq_getElem?_getD]
  cases h1:t[i]?<;>cases h2:t'[i]?<;>rw[h1,h2] at this<;>simp at this<;>first|rfl|simpa using this
 |_=>rfl
theorem nfEq.set (h:nfEq t t') {v v':V} (hv:v.nf=v'.nf) (d:Nat):nfEq (t.set d v) (t'.set d v'):=by
 unfold nfEq at*
 rw[List.map_set,List.map_set,h,hv]
theorem nfEq.putL (h:nfEq t t') {v v':V} (hv:v.nf=v'.nf) (dst:Option Tmp):nfEq (putL t dst v) (putL t' dst v'):=by
 cases dst with
 |none=>exact h
 |some d=>exact h.set hv d
theorem nfEq.mark (h:nfEq t t') {d:Nat} {b:Bool} (hb:t'[d]?=some (.cv (.bool b))):nfEq t (t'.set d (.kb b)):=by
 unfold nfEq at*
 rw[h,List.map_set]
 have hlt:=lt_of_get hb
 have:(t'.map V.nf)[d]?=some (V.nf (.kb b)):=by rw[List.getElem?_map,hb];rfl
 refine List.ext_getElem? fun i=>?_
 by_cases hi:i=d
 ·subst hi;rw[this,List.getElem?_set_self (by simpa using hlt)]
 ·rw[List.getElem?_set_ne (Ne.symm hi)]
theorem aDo_spec {o:Oper} {K:St→Prop} {t0:List V} (h:aDo P T o t m K) (he:nfEq t0 t):∃v m' t',OTr P T o (evN t0) m v m'∧nfEq (putL t0 o.dst v) t'∧K ⟨t',m'⟩:=by
 have hE:evN t0=evN t:=he.evN
 unfold aDo at h
 split at h
 ·rename_i x ho
  rw[putK_eq] at h
  exact⟨evN t0 x,m,_,fun K' hK'=>by unfold aCore;rw[ho];exact hK',he.putL (by rw[hE];exact nf_nf _) _,h⟩
 ·rename_i x ho
  rw[putK_eq] at h
  exact⟨evN t0 x,m,_,fun K' hK'=>by unfold aCore;rw[ho];exact hK',he.putL (by rw[hE];exact nf_nf _) _,h⟩
 ·rename_i c x y ho
  have mk:∀(b:Bool) (t':List V),evN t0 c= .cv (.bool b)→nfEq t0 t'→(match b with|true=>putK t' K o.dst (ev t' x) m|false=>putK t' K o.dst (ev t' y) m)→∃v m' t',OTr P T o (evN t0) m v m'∧nfEq (putL t0 o.dst v) t'∧K ⟨t',m'⟩:=by
   intro b t' hc he' hK
   cases b
   ·simp only[putK_eq] at hK
    exact⟨evN t0 y,m,_,fun K' hK'=>by unfold aCore;rw[ho];simp only[hc];intro b' e;subst e;exact hK',he'.putL (by rw[he'.evN];exact nf_nf _) _,hK⟩
   ·simp only[putK_eq] at hK
    exact⟨evN t0 x,m,_,fun K' hK'=>by unfold aCore;rw[ho];simp only[hc];intro b' e;subst e;exact hK',he'.putL (by rw[he'.evN];exact nf_nf _) _,hK⟩
  split at h
  ·rename_i hc
   exact mk true t (by rw[hE];simp[Go.Proofs.YtdccglkagfdooaaGreatDoor.evN,hc,V.nf]) he h
  ·rename_i hc
   exact mk false t (by rw[hE];simp[Go.Proofs.YtdccglkagfdooaaGreatDoor.evN,hc,V.nf]) he h
  ·rename_i b d hc
   have hb:t[d]?=some (.cv (.bool b)):=by
    simp only[ev,List.getD_eq_getElem?_getD] at hc
    cases hd:t[d]? with
    |none=>rw[hd] at hc;cases hc
    |some v=>rw[hd] at hc;simp at hc;rw[hc]
   have h:=h b rfl
   rw[setK_eq] at h
   exact mk b _ (by rw[hE];simp only[Go.Proofs.YtdccglkagfdooaaGreatDoor.evN,hc,V.nf]) (he.mark hb) h
  ·exact h.elim
 ·obtain⟨v,m',h1,h2,_⟩:=aCore_det _ h
  rw[putK_eq] at h2
  exact⟨v,m',_,by rw[hE];exact h1,he.putL rfl _,h2⟩
theorem aOp_spec {o:Oper} {K:St→Prop} {t0:List V} (h:aOp P T ops o ⟨t,m⟩ K) (he:nfEq t0 t):∃v m' t',YieldsA P T ops o t0 m v m'∧nfEq (putL t0 o.dst v) t'∧K ⟨t',m'⟩:=by
 simp only[aOp] at h
 split at h
 ·rename_i hg
  obtain⟨v,m',t',h1,h2,h3⟩:=aDo_spec h he
  exact⟨v,m',t',.inl ⟨hg,h1⟩,h2,h3⟩
 ·rename_i j want hg
  split at h
  ·exact h.elim
  rename_i d hd
  have mk:∀(b:Bool) (t':List V),(t0[d]?).map V.nf=some (.cv (.bool b))→nfEq t0 t'→(match(generalizing:=false) b,want with
        |true,true|false,false=>aDo P T o t' m K
        |_,_=>putK t' K o.dst (.cv undef) m)→∃v m' t',YieldsA P T ops o t0 m v m'∧nfEq (putL t0 o.dst v) t'∧K ⟨t',m'⟩:=by
   intro b t' hb he' hK
   by_cases hbw:b=want
   ·subst hbw
    have hK:aDo P T o t' m K:=by cases b<;>exact hK
    obtain⟨v,m',t',h1,h2,h3⟩:=aDo_spec hK he'
    exact⟨v,m',t',.inr ⟨j,b,d,_,hg,hd,hb,.inl ⟨rfl,h1⟩⟩,h2,h3⟩
   ·have hK:putK t' K o.dst (.cv undef) m:=by cases b<;>cases want<;>first|exact hK|exact absurd rfl hbw
    rw[putK_eq] at hK
    exact⟨.cv undef,m,_,.inr ⟨j,want,d,_,hg,hd,hb,.inr ⟨fun e=>hbw (by cases e;rfl),rfl,rfl⟩⟩,he'.putL rfl _,hK⟩
  split at h
  ·rename_i b hb
   exact mk b t (by rw[he.get d,hb];rfl) he h
  ·rename_i b hb
   have h:=h b rfl
   rw[setK_eq] at h
   exact mk b _ (by rw[he.get d,hb];rfl) (he.mark hb) h
  ·rename_i us hb
   rw[putK_eq] at h
   exact⟨.cv undef,m,_,.inr ⟨j,want,d,_,hg,hd,by rw[he.get d,hb];rfl,.inr ⟨(fun e=>by cases e),rfl,rfl⟩⟩,he.putL rfl _,h⟩
  ·exact h.elim
def OkSt (B:Fr) (w0:World) (K:St→Prop) (a:Act) (w:World):Prop:=∃N S t m,Sat B w0 N S t m a w∧K ⟨t,m⟩
theorem Sat.put (hs:Sat B w0 N S t m a w) {v:V} {u:Value} (h:RelV N S w v u) (dst:Option Tmp):Sat B w0 N S (putL t dst v) m (a.put dst u) w:=by
 cases dst with
 |none=>exact hs
 |some d=>
  refine⟨hs.low,hs.nodef,⟨?_,fun i v' hv'=>?_⟩,hs.blk,hs.non,hs.apart,hs.data,hs.fresh,hs.own,hs.base,hs.old,by simpa[putL] using hs.lent,hs.more,by simpa[putL] using hs.stay⟩
  ·have:=hs.tmps.1;simp only[putL,Act.put,List.length_set,Array.toList_setIfInBounds];exact this
  ·have hlen:=hs.tmps.1
   simp only[putL,Act.put,Array.toList_setIfInBounds] at hv'⊢
   by_cases hi:i=d
   ·subst hi
    have hlt:i<t.length:=by have:=lt_of_get hv';simpa using this
    rw[List.getElem?_set_self hlt] at hv';cases hv'
    rw[List.getD_eq_getElem?_getD,List.getElem?_set_self (by omega)]
    exact h
   ·rw[List.getElem?_set_ne (Ne.symm hi)] at hv'
    rw[List.getD_eq_getElem?_getD,List.getElem?_set_ne (Ne.symm hi),←List.getD_eq_getElem?_getD]
    exact hs.tmps.2 i v' hv'
theorem yields_wanted (hs:Sat B w0 N S t m a w) {o:Oper} {v:V} {m':List (Option Bk)} (h:YieldsA P T ops o t m v m'):
  (Region.wanted o (yielded ops a.tmps)=true∧OTr P T o (evN t) m v m')∨(Region.wanted o (yielded ops a.tmps)=false∧v= .cv undef∧m'=m):=by
 rcases h with⟨hg,h⟩|⟨j,want,d,c,hg,hd,hb,h⟩
 ·exact .inl ⟨by simp[Region.wanted,hg],h⟩
 ·obtain⟨vd,hb,hnf⟩:∃vd,t[d]?=some vd∧vd.nf= .cv c:=by
   cases hd':t[d]? with
   |none=>rw[hd'] at hb;cases hb
   |some vd=>rw[hd'] at hb;simp at hb;exact⟨vd,rfl,hb⟩
  have hr:=(hs.tmps.2 d _ hb).nf
  rw[hnf] at hr
  have hlt:=lt_of_get hb
  rw[getD_toList] at hr
  have hget:a.tmps[d]?=some (a.tmps.getD d undef):=by
   have e:a.tmps.toList.length=a.tmps.size:=by simp
   have hlt2:d<a.tmps.size:=by rw[←e,←hs.tmps.1];exact hlt
   simp[Array.getD_eq_getD_getElem?,hlt2]
  generalize a.tmps.getD d undef=z at hr hget
  cases hr
  rcases h with⟨rfl,h⟩|⟨hne,h⟩
  ·have hy:yielded ops a.tmps j=some want:=by unfold yielded;rw[hd];simp[hget]
   exact .inl ⟨by simp[Region.wanted,hg,hy],h⟩
  ·refine .inr ⟨?_,h⟩
   have hy:yielded ops a.tmps j≠some want:=by
    unfold yielded;rw[hd];simp[hget]
    intro e
    split at e
    ·simp_all
    ·cases e
   simp[Region.wanted,hg,hy]
theorem RelV.of_nf {v:V} {u:Value} (h:RelV N S w v.nf u):RelV N S w v u:=by
 cases v<;>try exact h
 cases h;exact .kb _
theorem Sat.nf (hs:Sat B w0 N S t m a w) (he:nfEq t t'):Sat B w0 N S t' m a w:=by
 have hle:t.length=t'.length:=by have:=congrArg List.length he;simpa using this
 refine⟨hs.low,hs.nodef,⟨?_,fun i v hv=>?_⟩,hs.blk,hs.non,hs.apart,hs.data,hs.fresh,hs.own,hs.base,hs.old,by rw[←hle];exact hs.lent,hs.more,by rw[←hle];exact hs.stay⟩
 ·have:=congrArg List.length he
  simp only[List.length_map] at this
  rw[←this];exact hs.tmps.1
 ·have h1:=he.get i
  rw[hv] at h1
  cases hi:t[i]? with
  |none=>rw[hi] at h1;cases h1
  |some v0=>
   rw[hi] at h1
   simp at h1
   have:=(hs.tmps.2 i v0 hi).nf
   rw[h1] at this
   exact this.of_nf
theorem step_sound (hT:TOk P T) (hs:Sat B w0 N S t m a w) {o:Oper} {v:V} {m':List (Option Bk)} (h:YieldsA P T ops o t m v m') {K:St→Prop} (hK:K ⟨putL t o.dst v,m'⟩)
  {K':Act→World→Prop} {Q:Exit→Act→World→Prop} (hKK:∀a w,OkSt B w0 K a w→K' a w):
  if Region.wanted o (yielded ops a.tmps) then o.wp P a w K' Q∨(o.asks P a w∧LetsOut Q) else K' (a.put o.dst undef) w:=by
 rcases yields_wanted hs h with⟨hw,hTr⟩|⟨hw,rfl,rfl⟩
 ·rw[if_pos hw]
  have:=aCore_sound hT hs (hTr (fun v m'=>K ⟨putL t o.dst v,m'⟩) hK) Q
  refine .inl ?_
  unfold Oper.wp at this⊢
  generalize (execOp a.eval o).run P w=r at this⊢
  have mono:∀a' w',(∃u,a'=a.put o.dst u∧Post B w0 t a (fun v m'=>K ⟨putL t o.dst v,m'⟩) u w')→K' a' w':=by
   rintro a' w' ⟨u,rfl,N',S',v',m'',h1,h2,h3⟩
   exact hKK _ _ ⟨N',S',_,_,h1.put h2 o.dst,h3⟩
  cases r with
  |ok x w'=>
   cases x<;>simp only[Oper.upon] at this⊢ <;>first|exact mono _ _ this|exact this.elim|skip
   ·refine Calls.mono this fun e w'' he=>?_
    cases e with
    |returned u=>exact mono _ _ he
    |panicked c=>exact he
    |outgrown=>exact he
   ·exact Rows.mono this fun u w'' he=>mono _ _ he
  |halt x w'=>cases x<;>simp only[Oper.upon] at this⊢ <;>exact this
 ·rw[if_neg (by rw[hw];simp)]
  exact hKK _ _ ⟨N,S,_,_,hs.put (.cv _) o.dst,hK⟩
theorem ops_sound (hT:TOk P T) {K:St→Prop} {Q:Exit→Act→World→Prop} (hKQ:∀a w,OkSt B w0 K a w→Q .normal a w) (l:List Oper):
  ∀(a:Act) (w:World),OkSt B w0 (fun st=>awpOps P T ops l st K) a w→wpList P ops Q l a w:=by
 induction l with
 |nil=>intro a w h;exact hKQ a w h
 |cons o l ih=>
  rintro a w ⟨N,S,t,m,hs,h⟩
  simp only[awpOps] at h
  obtain⟨v,m',t',h1,h2,h3⟩:=aOp_spec h rfl
  unfold wpList
  exact step_sound hT hs h1 (K:=fun st=>∃t',nfEq st.t t'∧awpOps P T ops l ⟨t',st.m⟩ K) ⟨t',h2,h3⟩ fun a w ⟨N,S,t,m,hs,t',he,h⟩=>ih a w ⟨N,S,t',m,hs.nf he,h⟩
def awpAny (P:Program) (T:Tab) (ops:Array Oper) (Q:St→Prop):Nat→Array Bool→St→Prop
 |0,listed,st=>Region.ready .any ops listed=[]∧Q st
 |fuel+1,listed,st=>
  (Region.ready .any ops listed=[]→Q st)∧
  ∀i∈Region.ready .any ops listed,match ops[i]? with
   |none=>awpAny P T ops Q fuel (listed.setIfInBounds i true) st
   |some o=>aOpN P T ops o st (awpAny P T ops Q fuel (listed.setIfInBounds i true))
theorem any_sound (hT:TOk P T) {K:St→Prop} {Q:Exit→Act→World→Prop} (hKQ:∀a w,OkSt B w0 K a w→Q .normal a w):∀(fuel:Nat) (listed:Array Bool) (a:Act) (w:World),
  OkSt B w0 (awpAny P T ops K fuel listed) a w→wpAny P .any ops Q fuel listed a w
 |0,listed,a,w,⟨N,S,t,m,hs,h⟩=>⟨h.1,hKQ _ _ ⟨N,S,t,m,hs,h.2⟩⟩
 |fuel+1,listed,a,w,⟨N,S,t,m,hs,h⟩=>by
  refine⟨fun h0=>hKQ _ _ ⟨N,S,t,m,hs,h.1 h0⟩,fun i hi=>?_⟩
  have:=h.2 i hi
  unfold wpOp
  cases ho:ops[i]? with
  |none=>rw[ho] at this;exact any_sound hT hKQ fuel _ a w ⟨N,S,t,m,hs,this⟩
  |some o=>
   rw[ho] at this
   obtain⟨v,m',h1,h2⟩:=this
   exact step_sound hT hs h1 h2 fun a w h=>any_sound hT hKQ fuel _ a w h
theorem putL_comm {x y:Option Tmp} (v u:V) (h:∀d,x=some d→y≠some d):putL (putL t x v) y u=putL (putL t y u) x v:=by
 cases x with
 |none=>rfl
 |some d=>
  cases y with
  |none=>rfl
  |some e=>
   have hne:d≠e:=fun he=>h d rfl (he▸rfl)
   simp only[putL]
   rw[List.set_comm _ _ hne]
theorem ev_put {dst:Option Tmp} {v:V} {x:Operand} (h:∀d,dst=some d→x≠ .tmp d):ev (putL t dst v) x=ev t x:=by
 cases dst with
 |none=>rfl
 |some d=>
  cases x with
  |tmp i=>
   have hne:d≠i:=fun e=>h d rfl (by rw[e])
   simp only[ev,putL,List.getD_eq_getElem?_getD]
   rw[List.getElem?_set_ne hne]
  |_=>rfl
theorem YieldsA.put {o:Oper} {dst:Option Tmp} {u v:V} {m':List (Option Bk)} (h:∀d,dst=some d→d∉o.looksAt ops):YieldsA P T ops o (putL t dst u) m v m'↔YieldsA P T ops o t m v m':=by
 have hE:∀x∈o.op.operands.toList,evN (putL t dst u) x=evN t x:=fun x hx=>congrArg V.nf (ev_put fun d hd hxd=>h d hd (by
  subst hxd
  exact List.mem_append_left _ (List.mem_filterMap.2 ⟨.tmp d,by simpa using hx,rfl⟩)))
 have hTr:∀v m',OTr P T o (evN (putL t dst u)) m v m'↔OTr P T o (evN t) m v m':=fun v m'=>by
  unfold OTr
  constructor
  ·intro h K hK;rw[←aCore_congr hE];exact h K hK
  ·intro h K hK;rw[aCore_congr hE];exact h K hK
 have hslot:∀j want d,o.guard=some (j,want)→(ops[j]?).bind (·.dst)=some d→(putL t dst u)[d]?=t[d]?:=by
  intro j want d hg hd
  cases dst with
  |none=>rfl
  |some e=>
   have hne:e≠d:=by
    rintro rfl
    refine h e rfl ?_
    unfold Oper.looksAt
    simp[hg,hd]
   simp only[putL]
   rw[List.getElem?_set_ne hne]
 unfold YieldsA
 constructor
 ·rintro(⟨hg,h⟩|⟨j,want,d,b,hg,hd,hb,h⟩)
  ·exact .inl ⟨hg,(hTr _ _).1 h⟩
  ·rw[hslot j want d hg hd] at hb
   exact .inr ⟨j,want,d,b,hg,hd,hb,h.imp (fun h=>⟨h.1,(hTr _ _).1 h.2⟩) id⟩
 ·rintro(⟨hg,h⟩|⟨j,want,d,b,hg,hd,hb,h⟩)
  ·exact .inl ⟨hg,(hTr _ _).2 h⟩
  ·rw[←hslot j want d hg hd] at hb
   exact .inr ⟨j,want,d,b,hg,hd,hb,h.imp (fun h=>⟨h.1,(hTr _ _).2 h.2⟩) id⟩
theorem OTr.noeff {o:Oper} {E:Operand→V} {v:V} {m':List (Option Bk)} (h:OTr P T o E m v m') (hn:Oper.noeff T.fm o=true):m'=m:=by
 obtain⟨v2,m2,h1,h2,h3⟩:=aCore_det (P:=P) (T:=T) (o:=o) (E:=E) (m:=m) (fun v1 m1=>v1=v∧m1=m') (h _ ⟨rfl,rfl⟩)
 have:=h3 hn
 rw[←h2.2,this]
theorem YieldsA.noeff {o:Oper} {v:V} {m':List (Option Bk)} (h:YieldsA P T ops o t m v m') (hn:Oper.noeff T.fm o=true):m'=m:=by
 rcases h with⟨_,h⟩|⟨_,_,_,_,_,_,_,⟨_,h⟩|⟨_,_,h⟩⟩
 ·exact h.noeff hn
 ·exact h.noeff hn
 ·exact h
theorem OTr.nomem {o:Oper} {E:Operand→V} {v:V} {m':List (Option Bk)} (h:OTr P T o E m v m') (hn:Op.nomem T.fm o.op=true) (m2:List (Option Bk)):OTr P T o E m2 v m2:=by
 intro K hK
 have e:=h.noeff (noeff_of_nomem hn)
 subst e
 have:=h (fun v _=>K v m2) hK
 rw[aCore_nomem (P:=P) (T:=T) hn (m:=m2) (m2:=m')]
 exact this
theorem YieldsA.nomem {o:Oper} {v:V} {m':List (Option Bk)} (h:YieldsA P T ops o t m v m') (hn:Op.nomem T.fm o.op=true) (m2:List (Option Bk)):YieldsA P T ops o t m2 v m2:=by
 rcases h with⟨hg,h⟩|⟨j,want,d,b,hg,hd,hb,⟨h1,h⟩|⟨h1,h2,h⟩⟩
 ·exact .inl ⟨hg,h.nomem hn m2⟩
 ·exact .inr ⟨j,want,d,b,hg,hd,hb,.inl ⟨h1,h.nomem hn m2⟩⟩
 ·exact .inr ⟨j,want,d,b,hg,hd,hb,.inr ⟨h1,h2,rfl⟩⟩
theorem YieldsA.up {o:Oper} {v:V} {m2:List (Option Bk)} (h:YieldsA P T ops o t m v m) (hn:Oper.noeff T.fm o=true) (hu:Up m m2):YieldsA P T ops o t m2 v m2:=by
 have key:OTr P T o (evN t) m v m→OTr P T o (evN t) m2 v m2:=fun h K hK=>aCore_up hu hn (h (fun v _=>K v m2) hK)
 rcases h with⟨hg,h⟩|⟨j,want,d,b,hg,hd,hb,⟨h1,h⟩|⟨h1,h2,h⟩⟩
 ·exact .inl ⟨hg,key h⟩
 ·exact .inr ⟨j,want,d,b,hg,hd,hb,.inl ⟨h1,key h⟩⟩
 ·exact .inr ⟨j,want,d,b,hg,hd,hb,.inr ⟨h1,h2,rfl⟩⟩
theorem YieldsA.fresh {o:Oper} {v:V} {m':List (Option Bk)} (h:YieldsA P T ops o t m v m') (hf:Op.fresh T.fm o.op=true):Up m m':=by
 have key:OTr P T o (evN t) m v m'→Up m m':=fun h=>aCore_fresh hf (h (fun v1 m1=>v1=v∧m1=m') ⟨rfl,rfl⟩)
 rcases h with⟨hg,h⟩|⟨j,want,d,b,hg,hd,hb,⟨h1,h⟩|⟨h1,h2,h⟩⟩
 ·exact key h
 ·exact key h
 ·subst h;exact fun _ _ h=>h
def Closed (ops:Array Oper) (listed:Array Bool):Prop:=
 ∀(j:Nat) (o:Oper),ops[j]?=some o→listed.getD j false=true→∀e∈o.after,Region.binds .any e=true→listed.getD e.on false=true
theorem Closed.add {listed:Array Bool} (h:Closed ops listed) {i:Nat} (hi:i∈Region.ready .any ops listed):Closed ops (listed.setIfInBounds i true):=by
 obtain⟨_,oi,hoi,hall⟩:=mem_ready.1 hi
 intro j o ho hj e he hb
 by_cases hji:j=i
 ·subst hji
  rw[hoi] at ho;cases ho
  exact getD_set_true (hall e he hb)
 ·have:(listed.setIfInBounds i true).getD j false=listed.getD j false:=getD_set_ne false (Ne.symm hji)
  rw[this] at hj
  exact getD_set_true (h j o ho hj e he hb)
theorem anc_listed {A:List (List Nat)} (hA:ancOk ops A=true) {listed:Array Bool} (hc:Closed ops listed):∀(n j:Nat),j<n→∀(o:Oper),ops[j]?=some o→
  (∀e∈o.after,Region.binds .any e=true→listed.getD e.on false=true)→∀k,(A.getD j []).contains k=true→listed.getD k false=true:=by
 intro n
 induction n with
 |zero=>intro j hj;omega
 |succ n ih=>
  intro j hj o ho hall k hk
  have hlt:j<ops.size:=(Array.getElem?_eq_some_iff.1 ho).1
  simp only[ancOk,List.all_eq_true,List.mem_range] at hA
  have h1:=hA j hlt
  simp only[ho,List.all_eq_true] at h1
  have h2:=h1 k (by simpa using hk)
  simp only[List.any_eq_true,Bool.and_eq_true,decide_eq_true_eq,Bool.or_eq_true,beq_iff_eq] at h2
  obtain⟨e,he,⟨hb,hej⟩,h3⟩:=h2
  have he':e∈o.after:=by simpa using he
  have hl:=hall e he' hb
  rcases h3 with h3|h3
  ·rw[←h3];exact hl
  ·have hsz:e.on<ops.size:=by omega
   exact ih e.on (by omega) ops[e.on] (Array.getElem?_eq_getElem hsz) (hc e.on _ (Array.getElem?_eq_getElem hsz) hl) k h3
theorem any_first {A:List (List Nat)} (hA:ancOk ops A=true) {Q:St→Prop} {i:Nat} {oi:Oper} (hi:ops[i]?=some oi):
  ∀(fuel:Nat) (listed:Array Bool) (t:List V) (m:List (Option Bk)) (v:V) (m':List (Option Bk)),Closed ops listed→
   (∀j oj,ops[j]?=some oj→j≠i→listed.getD j true=false→(A.getD j []).contains i=false→oi.apart ops oj=true∧compat T.fm oi oj=true)→
   i∈Region.ready .any ops listed→YieldsA P T ops oi t m v m'→
   awpAny P T ops Q fuel (listed.setIfInBounds i true) ⟨putL t oi.dst v,m'⟩→awpAny P T ops Q (fuel+1) listed ⟨t,m⟩:=by
 intro fuel
 induction fuel with
 |zero=>
  intro listed t m v m' _ _ hr hy H
  refine⟨fun h=>(by rw[h] at hr;cases hr),fun j hj=>?_⟩
  by_cases hji:j=i
  ·subst hji;rw[hi];exact⟨v,m',hy,H⟩
  ·have:=ready_mono hj hji
   rw[H.1] at this
   cases this
 |succ fuel ih=>
  intro listed t m v m' hcl hfree hr hy H
  refine⟨fun h=>(by rw[h] at hr;cases hr),fun j hj=>?_⟩
  by_cases hji:j=i
  ·subst hji;rw[hi];exact⟨v,m',hy,H⟩
  have h1:=H.2 j (ready_mono hj hji)
  obtain⟨hjun,oj,hoj,hall⟩:=mem_ready.1 hj
  rw[hoj] at h1⊢
  have hnot:(A.getD j []).contains i=false:=by
   cases hc:(A.getD j []).contains i with
   |false=>rfl
   |true=>
    have h0:=(mem_ready.1 hr).1
    have hl:=anc_listed hA hcl (j+1) j (by omega) oj hoj hall i hc
    rcases Nat.lt_or_ge i listed.size with h'|h'
    ·simp[h'] at h0 hl;rw[h0] at hl;cases hl
    ·simp[Array.getElem?_eq_none h'] at hl
  obtain⟨hap,hcp⟩:=hfree j oj hoj hji hjun hnot
  obtain⟨p1,p2,p3⟩:=Oper.apart_spec hap
  obtain⟨vj,mj,hyj,hn⟩:=h1
  replace hyj:=(YieldsA.put p1).1 hyj
  have hcl':=hcl.add hj
  have hfree':∀k ok,ops[k]?=some ok→k≠i→(listed.setIfInBounds j true).getD k true=false→(A.getD k []).contains i=false→oi.apart ops ok=true∧compat T.fm oi ok=true:=fun k ok hk hki hun hno=>by
   refine hfree k ok hk hki ?_ hno
   by_cases hjk:j=k
   ·subst hjk;exact hjun
   ·rw[getD_set_ne true hjk] at hun;exact hun
  have hn':awpAny P T ops Q fuel ((listed.setIfInBounds j true).setIfInBounds i true) ⟨putL (putL t oj.dst vj) oi.dst v,mj⟩:=by
   rw[←putL_comm v vj p2,Array.setIfInBounds_comm _ _ hji]
   exact hn
  have fin:∀mj',YieldsA P T ops oj t m vj mj'→YieldsA P T ops oi t mj' v mj→aOpN P T ops oj ⟨t,m⟩ (awpAny P T ops Q (fuel+1) (listed.setIfInBounds j true)):=fun mj' h1 h2=>
   ⟨vj,mj',h1,ih (listed.setIfInBounds j true) _ _ v mj hcl' hfree' (ready_mono hr (Ne.symm hji)) ((YieldsA.put p3).2 h2) hn'⟩
  simp only[compat,Bool.or_eq_true,Bool.and_eq_true] at hcp
  rcases hcp with(hcp|hcp)|⟨hc1,hc2|hc2⟩
  ·have:=hy.noeff (noeff_of_nomem hcp)
   subst this
   exact fin mj hyj (hy.nomem hcp mj)
  ·have:=hyj.noeff (noeff_of_nomem hcp)
   subst this
   exact fin m (hyj.nomem hcp m) hy
  ·have e1:=hy.noeff hc1
   subst e1
   have e2:=hyj.noeff hc2
   subst e2
   exact fin _ hyj hy
  ·have e1:=hy.noeff hc1
   subst e1
   exact fin _ hyj (hy.up hc1 (hyj.fresh hc2))
theorem any_pull {A:List (List Nat)} (hA:ancOk ops A=true) {Q:St→Prop} {i:Nat} {oi:Oper} (hi:ops[i]?=some oi):
  ∀(fuel:Nat) (listed:Array Bool) (t:List V) (m:List (Option Bk)) (v:V),Closed ops listed→
   (∀j oj,ops[j]?=some oj→j≠i→listed.getD j true=false→(A.getD j []).contains i=false→oi.apart ops oj=true)→
   i∈Region.ready .any ops listed→(∀m2,YieldsA P T ops oi t m2 v m2)→
   awpAny P T ops Q fuel (listed.setIfInBounds i true) ⟨putL t oi.dst v,m⟩→awpAny P T ops Q (fuel+1) listed ⟨t,m⟩:=by
 intro fuel
 induction fuel with
 |zero=>
  intro listed t m v _ _ hr hy H
  refine⟨fun h=>(by rw[h] at hr;cases hr),fun j hj=>?_⟩
  by_cases hji:j=i
  ·subst hji;rw[hi];exact⟨v,m,hy m,H⟩
  ·have:=ready_mono hj hji
   rw[H.1] at this
   cases this
 |succ fuel ih=>
  intro listed t m v hcl hfree hr hy H
  refine⟨fun h=>(by rw[h] at hr;cases hr),fun j hj=>?_⟩
  by_cases hji:j=i
  ·subst hji;rw[hi];exact⟨v,m,hy m,H⟩
  have h1:=H.2 j (ready_mono hj hji)
  obtain⟨hjun,oj,hoj,hall⟩:=mem_ready.1 hj
  rw[hoj] at h1⊢
  have hnot:(A.getD j []).contains i=false:=by
   cases hc:(A.getD j []).contains i with
   |false=>rfl
   |true=>
    have h0:=(mem_ready.1 hr).1
    have hl:=anc_listed hA hcl (j+1) j (by omega) oj hoj hall i hc
    rcases Nat.lt_or_ge i listed.size with h'|h'
    ·simp[h'] at h0 hl;rw[h0] at hl;cases hl
    ·simp[Array.getElem?_eq_none h'] at hl
  have hap:=hfree j oj hoj hji hjun hnot
  obtain⟨p1,p2,p3⟩:=Oper.apart_spec hap
  obtain⟨vj,mj,hyj,hn⟩:=h1
  replace hyj:=(YieldsA.put p1).1 hyj
  have hcl':=hcl.add hj
  have hfree':∀k ok,ops[k]?=some ok→k≠i→(listed.setIfInBounds j true).getD k true=false→(A.getD k []).contains i=false→oi.apart ops ok=true:=fun k ok hk hki hun hno=>by
   refine hfree k ok hk hki ?_ hno
   by_cases hjk:j=k
   ·subst hjk;exact hjun
   ·rw[getD_set_ne true hjk] at hun;exact hun
  have hn':awpAny P T ops Q fuel ((listed.setIfInBounds j true).setIfInBounds i true) ⟨putL (putL t oj.dst vj) oi.dst v,mj⟩:=by
   rw[←putL_comm v vj p2,Array.setIfInBounds_comm _ _ hji]
   exact hn
  exact⟨vj,mj,hyj,ih (listed.setIfInBounds j true) _ _ v hcl' hfree' (ready_mono hr (Ne.symm hji)) (fun m2=>(YieldsA.put p3).2 (hy m2)) hn'⟩
theorem any_lex {A:List (List Nat)} (hA:ancOk ops A=true) {Q:St→Prop}:∀(l:List Oper) (k:Nat) (listed:Array Bool) (t0 t:List V) (m:List (Option Bk)),nfEq t0 t→Closed ops listed→(∀j,l[j]?=ops[k+j]?)→
  lex2 T.fm ops A l.length k listed=true→awpOps P T ops l ⟨t,m⟩ Q→awpAny P T ops (fun st=>∃t',nfEq st.t t'∧Q ⟨t',st.m⟩) l.length listed ⟨t0,m⟩
 |[],_,_,t0,t,m,he,_,_,hB,h=>⟨by simpa[lex2] using hB,t,he,h⟩
 |o::l,k,listed,t0,t,m,he,hcl,hl,hB,h=>by
  have h0:ops[k]?=some o:=by simpa using(hl 0).symm
  simp only[List.length_cons,lex2,Bool.and_eq_true] at hB
  obtain⟨⟨hr,hf⟩,hB'⟩:=hB
  simp only[awpOps] at h
  obtain⟨v,m',t',hy,he',hK⟩:=aOp_spec h he
  have hr':k∈Region.ready .any ops listed:=by simpa using hr
  refine any_first hA h0 l.length listed t0 m v m' hcl ?_ hr' hy
   (any_lex hA l (k+1) _ _ t' m' he' (hcl.add hr') (fun j=>by have:=hl (j+1);simpa[Nat.add_assoc,Nat.add_comm 1 j] using this) hB' hK)
  intro j oj hj hne hun hno
  simp only[free2,h0,List.all_eq_true,List.mem_range] at hf
  have h1:=hf j (Array.getElem?_eq_some_iff.1 hj).1
  simp only[hj,Bool.or_eq_true,beq_iff_eq,hne,false_or,hun,Bool.false_eq_true,hno,Bool.and_eq_true] at h1
  exact h1
theorem plan_sound {A:List (List Nat)} (hA:ancOk ops A=true) {Q:St→Prop}:∀(p:Plan) (fuel:Nat) (listed:Array Bool) (t0 t:List V) (m:List (Option Bk)),nfEq t0 t→Closed ops listed→planOk T.fm ops A p fuel listed=true→awpPlan P T ops p ⟨t,m⟩ Q→
  (p.cov ops listed=true→awpAny P T ops (fun st=>∃t',nfEq st.t t'∧Q ⟨t',st.m⟩) fuel listed ⟨t0,m⟩)∧
  (∀fuel',fuel=fuel'+1→∀j o,j∈p.alts→ops[j]?=some o→aOpN P T ops o ⟨t0,m⟩ (awpAny P T ops (fun st=>∃t',nfEq st.t t'∧Q ⟨t',st.m⟩) fuel' (listed.setIfInBounds j true))):=by
 intro p
 induction p with
 |done=>
  intro fuel listed t0 t m he hcl hok h
  have hr:Region.ready .any ops listed=[]:=by simpa[planOk] using hok
  refine⟨fun _=>?_,fun _ _ _ _ hj=>by simp[Plan.alts] at hj⟩
  cases fuel with
  |zero=>exact⟨hr,t,he,h⟩
  |succ fuel=>exact⟨fun _=>⟨t,he,h⟩,fun i hi=>by rw[hr] at hi;cases hi⟩
 |one i p ih=>
  intro fuel listed t0 t m he hcl hok h
  refine⟨fun _=>?_,fun _ _ _ _ hj=>by simp[Plan.alts] at hj⟩
  cases fuel with
  |zero=>simp[planOk] at hok
  |succ fuel=>
   simp only[planOk,Bool.and_eq_true] at hok
   obtain⟨hr,hf,hcov,hok⟩:=hok
   simp only[awpPlan] at h
   split at h
   rotate_left
   ·exact h.elim
   rename_i o ho
   obtain⟨v,m',t',hy,he',hK⟩:=aOp_spec h he
   have hr':i∈Region.ready .any ops listed:=by simpa using hr
   refine any_first hA ho fuel listed t0 m v m' hcl ?_ hr' hy ((ih fuel _ _ t' m' he' (hcl.add hr') hok hK).1 hcov)
   intro j oj hj hne hun hno
   simp only[free2,ho,List.all_eq_true,List.mem_range] at hf
   have h1:=hf j (Array.getElem?_eq_some_iff.1 hj).1
   simp only[hj,Bool.or_eq_true,beq_iff_eq,hne,false_or,hun,Bool.false_eq_true,hno,Bool.and_eq_true] at h1
   exact h1
 |pull i p ih=>
  intro fuel listed t0 t m he hcl hok h
  refine⟨fun _=>?_,fun _ _ _ _ hj=>by simp[Plan.alts] at hj⟩
  cases fuel with
  |zero=>simp[planOk] at hok
  |succ fuel=>
   simp only[planOk,Bool.and_eq_true] at hok
   obtain⟨hr,hf,hcov,hok⟩:=hok
   simp only[awpPlan] at h
   split at h
   rotate_left
   ·exact h.elim
   rename_i o ho
   split at h
   rotate_left
   ·exact h.elim
   rename_i hg
   obtain⟨v,hv,hK⟩:=h
   rw[putK_eq] at hK
   have hr':i∈Region.ready .any ops listed:=by simpa using hr
   have hy:∀m2,YieldsA P T ops o t0 m2 v m2:=fun m2=> .inl ⟨hg,by rw[he.evN];exact hv m2⟩
   have he':nfEq (putL t0 o.dst v) (putL t o.dst v):=by
    unfold nfEq putL at*
    cases o.dst with
    |none=>exact he
    |some d=>rw[List.map_set,List.map_set,he]
   refine any_pull hA ho fuel listed t0 m v hcl ?_ hr' hy ((ih fuel _ _ (putL t o.dst v) m he' (hcl.add hr') hok hK).1 hcov)
   intro j oj hj hne hun hno
   simp only[freeP,ho,List.all_eq_true,List.mem_range] at hf
   have h1:=hf j (Array.getElem?_eq_some_iff.1 hj).1
   simp only[hj,Bool.or_eq_true,beq_iff_eq,hne,false_or,hun,Bool.false_eq_true,hno] at h1
   exact h1
 |alt i p q ihp ihq=>
  intro fuel listed t0 t m he hcl hok h
  cases fuel with
  |zero=>simp[planOk] at hok
  |succ fuel=>
   simp only[planOk,Bool.and_eq_true] at hok
   obtain⟨hr,hcov,hokp,hokq⟩:=hok
   simp only[awpPlan] at h
   obtain⟨h1,h2⟩:=h
   split at h1
   rotate_left
   ·exact h1.elim
   rename_i o ho
   obtain⟨v,m',t',hy,he',hK⟩:=aOp_spec h1 he
   have hr':i∈Region.ready .any ops listed:=by simpa using hr
   have hi:=(ihp fuel _ _ t' m' he' (hcl.add hr') hokp hK).1 hcov
   have hq:=(ihq (fuel+1) listed t0 t m he hcl hokq h2).2
   have alts:∀j o',j∈(Plan.alt i p q).alts→ops[j]?=some o'→aOpN P T ops o' ⟨t0,m⟩ (awpAny P T ops (fun st=>∃t',nfEq st.t t'∧Q ⟨t',st.m⟩) fuel (listed.setIfInBounds j true)):=by
    intro j o' hj ho'
    simp only[Plan.alts,List.mem_cons] at hj
    rcases hj with rfl|hj
    ·rw[ho] at ho';cases ho'
     exact⟨v,m',hy,hi⟩
    ·exact hq fuel rfl j o' hj ho'
   refine⟨fun hc=>⟨fun h0=>(by rw[h0] at hr';cases hr'),fun j hj=>?_⟩,fun fuel' e j o' hj ho'=>by cases e;exact alts j o' hj ho'⟩
   have hj':j∈(Plan.alt i p q).alts:=by
    simp only[Plan.cov,List.all_eq_true] at hc
    simpa using hc j hj
   obtain⟨_,oj,hoj,_⟩:=mem_ready.1 hj
   rw[hoj]
   exact alts j oj hj' hoj
 |stop=>
  intro fuel listed t0 t m he hcl hok h
  exact⟨fun hc=>by simp[Plan.cov] at hc,fun _ _ _ _ hj=>by simp[Plan.alts] at hj⟩
theorem Sat.drewM (hs:Sat B w0 N S t m a w):Sat B w0 N S t m a w.drew:=⟨hs.low.drew,hs.nodef,hs.tmps.mono (w:=w) (w':=w.drew) (NLe.refl _) (fun _ _ h=>h) (fun _ _ _=>rfl),fun k b hk=>(hs.blk k b hk).mono (w:=w) (w':=w.drew) rfl (NLe.refl _) (fun _ _ h=>h) (fun _ _ _=>rfl) (fun _ _ _ _ _=>rfl),hs.non,hs.apart,hs.data,hs.fresh,hs.own,hs.base,hs.old,hs.lent,hs.more.mono (w:=w) (w':=w.drew) (Nat.le_refl _) (fun _ _ h=>h.mono (w:=w) (w':=w.drew) (NLe.refl _) (fun _ _ h=>h) fun _ _ _=>rfl) hs.base fun _ _ h=> .inl h,hs.stay⟩
theorem draw_sound (hT:TOk P T) (hm:P.follows .mixedOrders=true) {K:St→Prop} {Q:Exit→Act→World→Prop} (hKQ:∀a w,OkSt B w0 K a w→Q .normal a w) {id:Nat}
  (h:OkSt B w0 (fun st=>DrawA P T ops st K) a w):(Code.region id ops true).wp P Q a w:=by
 refine wp_region_any hm (any_sound (B:=B) (w0:=w0) hT (K:=fun st=>∃t',nfEq st.t t'∧K ⟨t',st.m⟩) (fun a w ⟨N,S,t,m,hs,t',he,h⟩=>hKQ a w ⟨N,S,t',m,hs.nf he,h⟩) _ _ _ _ ?_)
 obtain⟨N,S,t,m,hs,h⟩:=h
 have hcl:Closed ops (Array.replicate ops.size false):=by
  intro j o _ hj
  rcases Nat.lt_or_ge j ops.size with h'|h'
  ·simp[h'] at hj
  ·simp[h'] at hj
 have:awpAny P T ops (fun st=>∃t',nfEq st.t t'∧K ⟨t',st.m⟩) ops.size (Array.replicate ops.size false) ⟨t,m⟩:=by
  obtain⟨pl,h⟩:=h
  cases pl with
  |none=>
   obtain⟨hd,h⟩:=h
   simp only[drawOk,Bool.and_eq_true] at hd
   have:=any_lex (P:=P) (T:=T) hd.1 (Q:=K) ops.toList 0 (Array.replicate ops.size false) t t m rfl hcl (by simp) (by simpa using hd.2) h
   simpa using this
  |some p=>
   obtain⟨hd,h⟩:=h
   simp only[Bool.and_eq_true] at hd
   exact(plan_sound hd.1 p _ _ t t m rfl hcl hd.2.2 h).1 hd.2.1
 refine⟨N,S,t,m,?_,this⟩
 exact hs.drewM
end
end Go.Proofs.YtdccglkagfdooaaGreatDoor
