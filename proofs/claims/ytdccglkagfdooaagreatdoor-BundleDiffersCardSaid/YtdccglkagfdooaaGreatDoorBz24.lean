/- Texts joined by pack.py: XSyPC XSyPE XSyPF XStB XStC XStD XStE XSxC1 -/
import Derived.Test.YtdccglkagfdooaaGreatDoorBz23
import Derived.Test.YtdccglkagfdooaaGreatDoorBz19
import Derived.Test.YtdccglkagfdooaaGreatDoorBz16
import Derived.Test.YtdccglkagfdooaaGreatDoorBz14
import Derived.Laws.MakeOwn
import Derived.Laws.CopyRow
set_option maxHeartbeats 16000000
set_option maxRecDepth 100000
namespace Go.Proofs.YtdccglkagfdooaaGreatDoor
def opnT (t:Tok):Bool:=decide (t.kind=5)&&[sLP,sLB,sLC,sMi].contains t.text
def clsT (t:Tok):Bool:=decide (t.kind=5)&&[sRP,sRB,sRC,sCm,sSc,sCl,sLP,sLB].contains t.text
def nextOk (a:Tok):List Pc→Bool
 | .t b::_=>opnT a||clsT b
 |_=>true
def okTk (t:Tok):Bool:=decide ((textT t).2=0)
def adj:List Pc→Bool
 |[]=>true
 | .b s::l=> !s.isEmpty&&s.all isBl&&adj l
 | .t a::l=>okTk a&&nextOk a l&&adj l
theorem adj_open {a:Tok} {l:List Pc} (h:okTk a=true) (ho:opnT a=true) (hl:adj l=true):adj (.t a::l)=true:=by
 simp only[adj,Bool.and_eq_true]
 refine⟨⟨h,?_⟩,hl⟩
 unfold nextOk
 split
 ·simp[ho]
 ·rfl
theorem adj_tb {a:Tok} {s:Bs} {l:List Pc} (h:okTk a=true) (hl:adj (.b s::l)=true):adj (.t a:: .b s::l)=true:=by
 rw[show adj (.t a:: .b s::l)=(okTk a&&nextOk a (.b s::l)&&adj (.b s::l)) from rfl,h,hl];rfl
theorem adj_tc {a b:Tok} {l:List Pc} (h:okTk a=true) (hc:clsT b=true) (hl:adj (.t b::l)=true):adj (.t a:: .t b::l)=true:=by
 rw[show adj (.t a:: .t b::l)=(okTk a&&(opnT a||clsT b)&&adj (.t b::l)) from rfl,h,hl,hc];simp
theorem adj_b {s:Bs} {l:List Pc} (h1:s.isEmpty=false) (h2:s.all isBl=true) (hl:adj l=true):adj (.b s::l)=true:=by
 simp[adj,h1,h2,hl]
theorem adj_sp {l:List Pc} (hl:adj l=true):adj (sp1::l)=true:=adj_b rfl rfl hl
theorem adj_nl {d:Nat} {l:List Pc} (hl:adj l=true):adj (nl d::l)=true:=by
 refine adj_b rfl ?_ hl
 simp[tabs,isBl]
theorem adj_one {a:Tok} (h:okTk a=true):adj [.t a]=true:=by simp[adj,h,nextOk]
theorem adj_mid:∀{p l:List Pc} {b:Tok},adj p=true→clsT b=true→adj (.t b::l)=true→adj (p++ .t b::l)=true
 |[],l,b,_,_,h=>h
 | .b s::p,l,b,hp,hc,h=>by
  simp only[adj,Bool.and_eq_true] at hp
  simp only[List.cons_append,adj,Bool.and_eq_true]
  exact⟨hp.1,adj_mid hp.2 hc h⟩
 | .t a::p,l,b,hp,hc,h=>by
  simp only[adj,Bool.and_eq_true] at hp
  simp only[List.cons_append,adj,Bool.and_eq_true]
  refine⟨⟨hp.1.1,?_⟩,adj_mid hp.2 hc h⟩
  cases p with
  |nil=>simp[nextOk,hc]
  |cons x p=>
   cases x with
   |t k=>simpa[nextOk] using hp.1.2
   |b s=>rfl
theorem adj_midb:∀{p l:List Pc} {s:Bs},adj p=true→adj (.b s::l)=true→adj (p++ .b s::l)=true
 |[],l,s,_,h=>h
 | .b s'::p,l,s,hp,h=>by
  simp only[adj,Bool.and_eq_true] at hp
  have:=adj_midb hp.2 h
  simp only[List.cons_append]
  rw[show adj (.b s'::(p++ .b s::l))=(!s'.isEmpty&&s'.all isBl&&adj (p++ .b s::l)) from rfl,this]
  simp only[Bool.and_eq_true]
  exact⟨hp.1,trivial⟩
 | .t a::p,l,s,hp,h=>by
  simp only[adj,Bool.and_eq_true] at hp
  have:=adj_midb hp.2 h
  simp only[List.cons_append]
  rw[show adj (.t a::(p++ .b s::l))=(okTk a&&nextOk a (p++ .b s::l)&&adj (p++ .b s::l)) from rfl,this]
  simp only[Bool.and_eq_true]
  refine⟨⟨hp.1.1,?_⟩,trivial⟩
  cases p with
  |nil=>rfl
  |cons x p=>
   cases x with
   |t k=>simpa[nextOk] using hp.1.2
   |b s=>rfl
theorem kwL_lit (l:Bs):kwL l=([wFunc,wLet,wIf,wElse,wWhile,wReturn,wAnd,wOr,wNot,wNull,wTrue,wFalse]:List Bs).any fun k=>l==k:=by
 have h:∀k:Bs,sEq (mk l) ⟨k.toArray⟩=(l==k):=fun k=>sEq_mk l k
 unfold kwL kwB kws
 simp only[List.any_cons,List.any_nil,h]
 rfl
theorem ok_wd {s:Bs} (h:([wFunc,wLet,wIf,wElse,wWhile,wReturn,wAnd,wOr,wNot,wNull,wTrue,wFalse]:List Bs).any (fun k=>s==k)=true):okTk (wd s)=true:=by
 rw[←kwL_lit] at h
 simp[okTk,textT,tk,h]
theorem ok_name {s:Bs} (h:nameB s=true):okTk (tk 1 s)=true:=by
 simp only[nameB,Bool.and_eq_true,Bool.not_eq_true'] at h
 simp[okTk,textT,tk,h.1,h.2]
theorem ok_host {s:Bs} (h:wholeB s=true):okTk (tk 6 s)=true:=by
 simp[okTk,textT,tk,h]
theorem ok_str {s:Bs} (h:contB s=true):okTk (tk 4 s)=true:=by
 simp[okTk,textT,tk,h]
theorem ok_int {v:Int} (h0:0≤v) (h1:v≤1000000000000):okTk ⟨3,[],v,0⟩=true:=by
 have:validB v=true:=by simp[validB];omega
 simp[okTk,textT,h0,this]
theorem ok_op {s:Bs} (h:0<binL s):okTk (tk (opK s) s)=true:=by
 rcases binL_cases s with h0|h1|h2|h4|h5|h6
 ·omega
 ·have:=binL_or.2 h1
  simp only[List.contains_cons,List.contains_nil,Bool.or_false,beq_iff_eq] at this
  subst this;exact ok_wd rfl
 ·have:=binL_and.2 h2
  simp only[List.contains_cons,List.contains_nil,Bool.or_false,beq_iff_eq] at this
  subst this;exact ok_wd rfl
 ·have:=binL_cmp.2 h4
  simp only[opCmp,List.contains_cons,List.contains_nil,Bool.or_false,Bool.or_eq_true,beq_iff_eq] at this
  rcases this with rfl|rfl|rfl|rfl|rfl|rfl<;>rfl
 ·have:=binL_add.2 h5
  simp only[opAdd,List.contains_cons,List.contains_nil,Bool.or_false,Bool.or_eq_true,beq_iff_eq] at this
  rcases this with rfl|rfl<;>rfl
 ·have:=binL_mul.2 h6
  simp only[opMul,List.contains_cons,List.contains_nil,Bool.or_false,Bool.or_eq_true,beq_iff_eq] at this
  rcases this with rfl|rfl|rfl<;>rfl
theorem adj_qP {lv req:Int} {p:List Pc} (h:adj p=true):adj (qP lv req p)=true:=by
 unfold qP
 split
 ·exact adj_open rfl rfl (adj_mid h rfl (adj_one rfl))
 ·exact h
theorem adj_commaP:∀{ps:List (List Pc)},(∀p∈ps,adj p=true)→adj (commaP ps)=true
 |[],_=>rfl
 |[p],h=>h p (by simp)
 |p::q::l,h=>by
  have:=adj_commaP (ps:=q::l) fun x hx=>h x (by simp[hx])
  exact adj_mid (h p (by simp)) rfl (adj_tb rfl (adj_sp this))
theorem adj_keysP:∀{ks:List Bs} {ps:List (List Pc)},(∀k∈ks,contB k=true)→(∀p∈ps,adj p=true)→∀p∈keysP ks ps,adj p=true
 |[],_,_,_,p,hp=>by cases hp
 |_::_,[],_,_,p,hp=>by cases hp
 |k::ks,q::ps,hk,h,p,hp=>by
  simp only[keysP,List.mem_cons] at hp
  rcases hp with rfl|hp
  ·exact adj_tc (ok_str (hk k (by simp))) rfl (adj_tb rfl (adj_sp (h q (by simp))))
  ·exact adj_keysP (fun x hx=>hk x (by simp[hx])) (fun x hx=>h x (by simp[hx])) p hp
theorem adj_linesP (d d':Nat):∀{ps:List (List Pc)},(∀p∈ps,adj p=true)→adj (linesP d ps++[nl d',.t (sy sRC)])=true
 |[],_=>adj_nl (adj_one rfl)
 |p::ps,h=>by
  have:=adj_linesP d d' (ps:=ps) fun x hx=>h x (by simp[hx])
  simp only[linesP,List.cons_append,List.append_assoc]
  refine adj_nl ?_
  cases ps with
  |nil=>exact adj_midb (h p (by simp)) this
  |cons q ps=>exact adj_midb (h p (by simp)) this
theorem asc_cont:∀{ks:List Bs},ascB ks=true→∀k∈ks,contB k=true
 |[],_,k,h=>by cases h
 |[a],ha,k,h=>by rw[List.mem_singleton.1 h];exact ha
 |a::b::l,ha,k,h=>by
  simp only[ascB,Bool.and_eq_true] at ha
  rcases List.mem_cons.1 h with rfl|h
  ·exact ha.1.1
  ·exact asc_cont (ks:=b::l) ha.2 k h
theorem Tr.pc_adj:∀(n:Nat) (T:Tr) (d:Nat),T.size≤n→T.wf=true→adj (T.pc d)=true:=by
 intro n
 induction n with
 |zero=>intro T d hn;have:=T.size_pos;omega
 |succ n ih=>
  intro T d hn hw
  obtain⟨⟨kind,text,val,keys⟩,ts⟩:=T
  obtain⟨hf,hc,hws⟩:=wf_parts hw
  simp only at hf hc hws
  have hX:∀X∈ts,∀d,adj (X.pc d)=true:=fun X hX d=>ih X d (kid_size hX hn) (kid_wf hX hws)
  have hl:∀d,∀p∈Tr.pcl d ts,adj p=true:=fun d p hp=>by
   rw[Tr.pcl_eq] at hp
   obtain⟨X,h1,rfl⟩:=List.mem_map.1 hp
   exact hX X h1 d
  have hff:=fields_facts hf
  rcases count_cases hc with⟨h1,h2,h0⟩|⟨rfl,h0⟩|⟨rfl,h0⟩|⟨rfl,h0⟩|⟨rfl,h0⟩|⟨rfl,h0⟩|⟨rfl,h0⟩|⟨rfl,h0⟩|⟨rfl,h0⟩|⟨rfl,h0⟩|⟨rfl,h0⟩|rfl|rfl|rfl|rfl|rfl
  ·obtain rfl:=len0 h0
   have:kind=1∨kind=2∨kind=3∨kind=4∨kind=5:=by omega
   rcases this with rfl|rfl|rfl|rfl|rfl
   ·exact adj_one (ok_wd rfl)
   ·obtain rfl:=hff.1 (by simp)
    obtain⟨_,hv⟩:text=[]∧(val=0∨val=1):=by simpa[fieldsB] using hf
    rcases hv with rfl|rfl
    ·exact adj_one (ok_wd rfl)
    ·exact adj_one (ok_wd rfl)
   ·obtain rfl:=hff.1 (by simp)
    obtain⟨⟨_,h3⟩,h4⟩:(text=[]∧0≤val)∧val≤1000000000000:=by simpa[fieldsB] using hf
    exact adj_one (ok_int h3 h4)
   ·obtain rfl:=hff.1 (by simp);obtain rfl:=hff.2 (by simp) (by simp)
    exact adj_one (ok_str (by simpa[fieldsB] using hf))
   ·obtain rfl:=hff.1 (by simp);obtain rfl:=hff.2 (by simp) (by simp)
    exact adj_one (ok_name (by simpa[fieldsB] using hf))
  ·obtain⟨A,rfl⟩:=len1 h0
   have e1:(Tr.node ⟨8,text,val,keys⟩ [A]).pc d=if text=wNot then .t (wd wNot)::sp1::qP A.level 3 (A.pc d) else .t (sy sMi)::qP A.level 7 (A.pc d):=rfl
   rw[e1]
   split
   ·exact adj_tb (ok_wd rfl) (adj_sp (adj_qP (hX A (by simp) d)))
   ·exact adj_open rfl rfl (adj_qP (hX A (by simp) d))
  ·obtain⟨A,rfl⟩:=len1 h0
   obtain rfl:=hff.1 (by simp);obtain rfl:=hff.2 (by simp) (by simp)
   have hn:nameB text=true:=by simpa[fieldsB] using hf
   exact adj_tb (ok_wd rfl) (adj_sp (adj_tb (ok_name hn) (adj_sp (adj_tb rfl (adj_sp (adj_mid (hX A (by simp) d) rfl (adj_one rfl)))))))
  ·obtain⟨A,rfl⟩:=len1 h0
   obtain rfl:=hff.1 (by simp);obtain rfl:=hff.2 (by simp) (by simp)
   have hn:nameB text=true:=by simpa[fieldsB] using hf
   exact adj_tb (ok_name hn) (adj_sp (adj_tb rfl (adj_sp (adj_mid (hX A (by simp) d) rfl (adj_one rfl)))))
  ·obtain⟨A,rfl⟩:=len1 h0
   exact adj_tb (ok_wd rfl) (adj_sp (adj_mid (hX A (by simp) d) rfl (adj_one rfl)))
  ·obtain⟨A,rfl⟩:=len1 h0
   exact adj_mid (hX A (by simp) d) rfl (adj_one rfl)
  ·obtain⟨A,B,rfl⟩:=len2 h0
   obtain rfl:=hff.1 (by simp);obtain rfl:=hff.2 (by simp) (by simp)
   have hb:0<binL text:=by simpa[fieldsB] using hf
   exact adj_midb (adj_qP (hX A (by simp) d)) (adj_sp (adj_tb (ok_op hb) (adj_sp (adj_qP (hX B (by simp) d)))))
  ·obtain⟨A,B,rfl⟩:=len2 h0
   exact adj_mid (adj_qP (hX A (by simp) d)) rfl (adj_open rfl rfl (adj_mid (hX B (by simp) d) rfl (adj_one rfl)))
  ·obtain⟨A,B,rfl⟩:=len2 h0
   exact adj_tb (ok_wd rfl) (adj_sp (adj_midb (hX A (by simp) d) (adj_sp (hX B (by simp) d))))
  ·obtain⟨A,B,rfl⟩:=len2 h0
   exact adj_tb (ok_wd rfl) (adj_sp (adj_midb (hX A (by simp) d) (adj_sp (hX B (by simp) d))))
  ·obtain⟨A,B,C,rfl⟩:=len3 h0
   exact adj_tb (ok_wd rfl) (adj_sp (adj_midb (hX A (by simp) d) (adj_sp (adj_midb (hX B (by simp) d) (adj_sp (adj_tb (ok_wd rfl) (adj_sp (hX C (by simp) d))))))))
  ·exact adj_open rfl rfl (adj_mid (adj_commaP (hl d)) rfl (adj_one rfl))
  ·obtain rfl:=hff.2 (by simp) (by simp)
   obtain⟨⟨_,h2⟩,h3⟩:(text=[]∧keys.length=ts.length)∧ascB keys=true:=by simpa[fieldsB] using hf
   exact adj_open rfl rfl (adj_mid (adj_commaP (adj_keysP (asc_cont h3) (hl d))) rfl (adj_one rfl))
  ·obtain rfl:=hff.1 (by simp);obtain rfl:=hff.2 (by simp) (by simp)
   have hn:nameB text=true:=by simpa[fieldsB] using hf
   exact adj_tc (ok_name hn) rfl (adj_open rfl rfl (adj_mid (adj_commaP (hl d)) rfl (adj_one rfl)))
  ·obtain rfl:=hff.1 (by simp);obtain rfl:=hff.2 (by simp) (by simp)
   have hn:wholeB text=true:=by simpa[fieldsB] using hf
   exact adj_tc (ok_host hn) rfl (adj_open rfl rfl (adj_mid (adj_commaP (hl d)) rfl (adj_one rfl)))
  ·exact adj_open rfl rfl (adj_linesP (d+1) d (hl (d+1)))
theorem parPc_adj:∀{ps:List Bs} {l:List Pc},(∀s∈ps,nameB s=true)→adj (.t (sy sRP)::l)=true→adj (parPc ps++ .t (sy sRP)::l)=true
 |[],l,_,h=>h
 |[p],l,hp,h=>adj_tc (ok_name (hp p (by simp))) rfl h
 |p::q::ps,l,hp,h=>by
  have:=parPc_adj (ps:=q::ps) (fun s hs=>hp s (by simp[hs])) h
  exact adj_tc (ok_name (hp p (by simp))) rfl (adj_tb rfl (adj_sp this))
theorem FnT.pc_adj {F:FnT} (h:FnTOk F) {l:List Pc} (hl:adj l=true):adj (F.pc++l)=true:=by
 have hb:=Tr.pc_adj _ F.body 0 (Nat.le_refl _) h.wf
 simp only[FnT.pc,List.cons_append,List.append_assoc]
 refine adj_tb (ok_wd rfl) (adj_sp (adj_tc (ok_name h.name) rfl (adj_open rfl rfl (parPc_adj h.params (adj_tb rfl (adj_sp ?_))))))
 exact adj_midb hb (adj_nl hl)
theorem progPc_adj:∀{fs:List FnT},(∀F∈fs,FnTOk F)→adj (progPc fs)=true
 |[],_=>rfl
 |F::fs,h=>FnT.pc_adj (h F (by simp)) (progPc_adj (fs:=fs) fun X hX=>h X (by simp[hX]))
end Go.Proofs.YtdccglkagfdooaaGreatDoor
namespace Go.Proofs.YtdccglkagfdooaaGreatDoor
def nestF (l:List Nd):Nat→Nat→Nat
 |0,_=>0
 |f+1,i=>match l[i]? with
  |none=>0
  |some n=>n.kids.foldl (fun m k=>max m (nestF l f k.toNat)) 0+1
theorem seg_first {l:List Nd} {T:Tr} {a:Nat} (hw:T.wf=true) (h:T.flat a<+:l.drop a):Seg l T a (a+T.size - 1):=⟨hw,by have:=T.size_pos;omega,h⟩
theorem nest_kids {l:List Nd} {F:Nat→Nat}:∀(Ts:List Tr) (a m:Nat),(∀T∈Ts,∀a i,Seg l T a i→F i=T.ht)→(∀T∈Ts,T.wf=true)→Tr.flats a Ts<+:l.drop a→
  (Tr.roots a Ts).foldl (fun m k=>max m (F k.toNat)) m=max m (Tr.hts Ts)
 |[],a,m,_,_,_=>by simp[Tr.roots,Tr.hts]
 |T::Ts,a,m,hF,hw,h=>by
  simp only[Tr.flats] at h
  rw[prefix_app,Tr.flat_length] at h
  have hs:=seg_first (hw T (by simp)) h.1
  have hpos:=T.size_pos
  simp only[Tr.roots,List.foldl_cons,Tr.hts]
  rw[show(((a+T.size:Nat):Int) - 1).toNat=a+T.size - 1 by omega,hF T (by simp) _ _ hs]
  rw[nest_kids Ts (a+T.size) _ (fun X hX=>hF X (by simp[hX])) (fun X hX=>hw X (by simp[hX])) h.2]
  omega
theorem nestF_seg {l:List Nd}:∀(f:Nat) (T:Tr) (a i:Nat),T.ht≤f→Seg l T a i→nestF l f i=T.ht
 |0,T,a,i,h,_=>by cases T;simp[Tr.ht] at h
 |f+1,T,a,i,h,hs=>by
  obtain⟨b,ts⟩:=T
  obtain⟨hf,hc,hws⟩:=wf_parts hs.wf
  have hlen:=hs.len
  have hseg:=hs.seg
  simp only[Tr.size] at hlen
  simp only[Tr.flat] at hseg
  rw[prefix_app,Tr.flats_length] at hseg
  have hi:l[i]?=some ⟨b.kind,b.text,b.val,b.keys,Tr.roots a ts⟩:=by
   have:=prefix_get hseg.2 (j:=0) (by simp)
   rw[show i=a+Tr.sizes ts+0 by omega,this]
   rfl
  simp only[nestF,hi,Tr.ht]
  rw[nest_kids ts a 0 (fun T hT a i hs=>nestF_seg f T a i (by have:=Tr.ht_mem hT;simp only[Tr.ht] at h;omega) hs) (fun X hX=>kid_wf hX hws) hseg.1]
  omega
def deepF (p:Pg):Nat:=p.funcs.foldl (fun m f=>max m (nestF p.nodes (p.nodes.length+1) f.body.toNat)) 0
def checkP (p:Pg):Int:=
 if 600<p.nodes.length∨16<p.funcs.length then 3
 else if ordB p=false then 1
 else if p.funcs.any (fun f=>decide (8<f.params.length))=true∨32<deepF p then 3
 else 0
def parseP (s:Bs):Pg×Int×Int:=
 if(tokens s).2.2≠0 then(⟨[],[]⟩,(tokens s).2.1,(tokens s).2.2)
 else match progP s.length (tokens s).1 with
  | .error o=>(⟨[],[]⟩,o,1)
  | .ok p=>if checkP p≠0 then(⟨[],[]⟩,0,3) else(p,0,0)
end Go.Proofs.YtdccglkagfdooaaGreatDoor
namespace Go.Proofs.YtdccglkagfdooaaGreatDoor
theorem Tr.mem_size:∀{l:List Tr} {X:Tr},X∈l→X.size≤Tr.sizes l
 |[],X,h=>by cases h
 |y::l,X,h=>by
  simp only[Tr.sizes]
  rcases List.mem_cons.1 h with rfl|h
  ·omega
  ·have:=Tr.mem_size h;omega
theorem Tr.ht_size:∀(m:Nat) (T:Tr),T.size≤m→T.ht≤T.size
 |0,T,h=>by have:=T.size_pos;omega
 |m+1,T,h=>by
  obtain⟨a,ts⟩:=T
  simp only[Tr.size] at h
  simp only[Tr.ht,Tr.size]
  have:Tr.hts ts≤Tr.sizes ts:=hts_le fun X hX=>by
   have h2:=Tr.mem_size hX
   have:=Tr.ht_size m X (by omega)
   omega
  omega
abbrev F0 (l:List Nd) (i:Nat):Option Nat:=firstF l (l.length+1) i
structure MInv (l:List Nd) (low:Nat) (sz ht:List Nat):Prop where
 len:ht.length=sz.length
 get:∀j,low≤j→j<sz.length→F0 l j=some (j+1 - sz.getD j 0)∧low≤j+1 - sz.getD j 0∧(1≤sz.getD j 0∧sz.getD j 0≤j+1)
 hts:∀j,low≤j→j<sz.length→ht.getD j 0=nestF l (l.length+1) j
theorem MInv.snoc {l:List Nd} {low:Nat} {sz ht:List Nat} (hI:MInv l low sz ht) {s h:Nat} (h1:F0 l sz.length=some (sz.length+1 - s)∧low≤sz.length+1 - s∧(1≤s∧s≤sz.length+1)) (h2:h=nestF l (l.length+1) sz.length):MInv l low (sz++[s]) (ht++[h]):=by
 refine⟨by simp[hI.len],fun j a b=>?_,fun j a b=>?_⟩
 ·rw[List.length_append,List.length_singleton] at b
  rcases Nat.lt_or_ge j sz.length with h3|h3
  ·rw[show(sz++[s]).getD j 0=sz.getD j 0 by simp[List.getD_eq_getElem?_getD,List.getElem?_append_left h3]]
   exact hI.get j a h3
  ·obtain rfl:j=sz.length:=by omega
   rw[show(sz++[s]).getD sz.length 0=s by simp[List.getD_eq_getElem?_getD]]
   exact h1
 ·rw[List.length_append,List.length_singleton] at b
  rcases Nat.lt_or_ge j sz.length with h3|h3
  ·rw[show(ht++[h]).getD j 0=ht.getD j 0 by simp[List.getD_eq_getElem?_getD,List.getElem?_append_left (show j<ht.length by rw[hI.len];exact h3)]]
   exact hI.hts j a h3
  ·obtain rfl:j=sz.length:=by omega
   rw[←hI.len,show(ht++[h]).getD ht.length 0=h by simp[List.getD_eq_getElem?_getD],hI.len]
   exact h2
end Go.Proofs.YtdccglkagfdooaaGreatDoor
namespace Go.Proofs.YtdccglkagfdooaaGreatDoor
open Go.RowKit
theorem find_ar (x:Bs):∀(l:List Fc) (i:Nat),(findN x l i<0∧arF x l=none)∨∃(j:Nat) (h:j<l.length),findN x l i=((i+j:Nat):Int)∧arF x l=some (l[j].params.length:Int)
 |[],i=> .inl ⟨by simp[findN],rfl⟩
 |s::l,i=>by
  by_cases h:s.name=x
  ·exact .inr ⟨0,by simp,by simp[findN,h],by simp[arF,h]⟩
  ·have h1:(s.name==x)=false:=by simpa using h
   rcases find_ar x l (i+1) with⟨a,b⟩|⟨j,h2,a,b⟩
   ·exact .inl ⟨by simp[findN,h1,a],by simp[arF,h,b]⟩
   ·refine .inr ⟨j+1,by simpa using h2,?_,?_⟩
    ·simp only[findN,h1]
     rw[if_neg (by simp),a]
     omega
    ·simp only[arF,if_neg h,b];rfl
abbrev nV (n:Nd):V:= .ag [int n.kind,bstr n.text,int n.val,.sl false 1 (n.keys.map strD),.sl false 1 (n.kids.map intD)]
structure PgS (p:Pg):Prop where
 ns:p.nodes.length≤1000000
 fs:p.funcs.length≤1000000
 kids:∀n∈p.nodes,n.kids.length≤1000000
 ps:∀f∈p.funcs,f.params.length≤1000000
theorem x_scall (p:Pg) (hp:PgS p) (vis:List (Bs×Int)) (nx:Int) (sl er:List Int) (n:Nd):
  MCallsG true Tryz.prog 133 [.bx 0 0,nV n] (scN p vis nx sl er) (int (callE p.funcs n)) (scN p vis nx sl er):=by
 have hlf:p.funcs.length≤8796093022207:=by have:=hp.fs;omega
 refine msxx [] Tryz.func133 (by kernel_rfl) (by kernel_rfl) (by rfl) ?_
 conv=>whnf
 refine⟨_,x_built n.text,?_⟩
 conv=>whnf
 refine⟨none,by kernel_rfl,?_⟩
 conv=>whnf
 refine⟨_,x_sfind p n.text hlf,?_⟩
 rcases find_ar n.text p.funcs 0 with⟨h1,h2⟩|⟨j,hj,h1,h2⟩
 ·have hc:callE p.funcs n=match getB builtT n.text with|none=>4|some k=>if k=n.kids.length then 0 else 7:=by unfold callE;rw[h2];rfl
  conv=>whnf
  refine known false (by simp;omega) ?_
  cases hb:getB builtT n.text with
  |none=>
   rw[hb] at hc
   conv=>whnf
   refine known true rfl ?_
   conv=>whnf
   exact⟨⟨rfl,rfl,fin_int hc.symm⟩,rfl⟩
  |some k=>
   rw[hb] at hc
   conv=>whnf
   refine known false rfl ?_
   conv=>whnf
   rintro(_|_) h3
   ·have h3:k=n.kids.length:=by simpa using h3
    conv=>whnf
    exact⟨⟨rfl,rfl,fin_int (by rw[hc];simp[h3])⟩,rfl⟩
   ·have h3:k≠n.kids.length:=by simpa using h3
    conv=>whnf
    exact⟨⟨rfl,rfl,fin_int (by rw[hc];simp[h3])⟩,rfl⟩
 ·have hc:callE p.funcs n=if(p.funcs[j].params.length:Int)=n.kids.length then 0 else 7:=by unfold callE;rw[h2]
  have h1:findN n.text p.funcs 0=(j:Int):=by rw[h1];simp
  rw[h1]
  conv=>whnf
  refine known true (by simp) ?_
  conv=>whnf
  refine⟨Int.natCast_nonneg j,_,get_map fcD hj,?_⟩
  conv=>whnf
  refine known false rfl ?_
  conv=>whnf
  rintro(_|_) h3
  ·have h3:(p.funcs[j].params.length:Int)=n.kids.length:=by simpa using h3
   conv=>whnf
   exact⟨⟨rfl,rfl,fin_int (by rw[hc];simp[h3])⟩,rfl⟩
  ·have h3:(p.funcs[j].params.length:Int)≠n.kids.length:=by simpa using h3
   conv=>whnf
   exact⟨⟨rfl,rfl,fin_int (by rw[hc];simp[h3])⟩,rfl⟩
end Go.Proofs.YtdccglkagfdooaaGreatDoor
namespace Go.Proofs.YtdccglkagfdooaaGreatDoor
open Go.RowKit
def Scp.Fit (N:Nat) (s:Scp):Prop:=s.sl.length=N∧s.er.length=N
theorem letS_fit {N:Nat} {s:Scp} (h:s.Fit N) (i:Nat) (t:Bs):(letS i t s).Fit N:=by
 obtain⟨vis,nx,sl,er⟩:=s
 obtain⟨h1,h2⟩:=h
 rw[letS_eq]
 split
 ·exact⟨by simpa using h1,by simpa using h2⟩
 ·split
  ·exact⟨by simpa using h1,by simpa using h2⟩
  ·exact⟨by simpa using h1,by simpa using h2⟩
theorem lastS_fit {N:Nat} {s:Scp} (h:s.Fit N) (fs:List Fc) (i:Nat) (n:Nd):(lastS fs i n s).Fit N:=by
 unfold lastS
 split
 ·split
  ·exact⟨by simpa using h.1,h.2⟩
  ·exact⟨h.1,by simpa using h.2⟩
 split
 ·exact letS_fit h _ _
 split
 ·exact⟨h.1,by simpa using h.2⟩
 split
 ·split
  ·exact h
  ·exact⟨h.1,by simpa using h.2⟩
 exact h
theorem blk_fit {N:Nat} {ns:List Nd} {w:Nat→Scp→Scp} (hw:∀k s,s.Fit N→(w k s).Fit N):∀(ks:List Int) (r:Scp×List Bs),r.1.Fit N→(ks.foldl (blkS ns w) r).1.Fit N
 |[],_,h=>h
 |k::ks,r,h=>by rw[List.foldl_cons];exact blk_fit hw ks _ (hw _ _ h)
theorem fold_fit {N:Nat} {w:Nat→Scp→Scp} (hw:∀k s,s.Fit N→(w k s).Fit N):∀(ks:List Int) (s:Scp),s.Fit N→(ks.foldl (fun s k=>w k.toNat s) s).Fit N
 |[],_,h=>h
 |k::ks,s,h=>by rw[List.foldl_cons];exact fold_fit hw ks _ (hw _ _ h)
theorem walkS_fit {N:Nat} {ns:List Nd} {fs:List Fc}:∀(f i:Nat) (s:Scp),s.Fit N→(walkS ns fs f i s).Fit N
 |0,_,_,h=>h
 |f+1,i,s,h=>by
  unfold walkS
  split
  ·exact h
  ·split
   ·have:=blk_fit (ns:=ns) (w:=walkS ns fs f) (fun k s h=>walkS_fit f k s h) ‹Nd›.kids (s,[]) h
    exact⟨this.1,this.2⟩
   ·exact lastS_fit (fold_fit (fun k s h=>walkS_fit f k s h) _ _ h) _ _ _
abbrev scX (p:Pg) (s:Scp) (a b c d:Nat):List (Nat×Option Bk):=[(a,some (.box [.sl false 5 (p.nodes.map ndD),.sl false 3 (p.funcs.map fcD),.ow b fixV,int s.nx,.ow c fixV,.ow d fixV])),
 (b,some (.asr fixV (mapC (bM s.vis)) [])),(c,some (.row fixV 3 1 false (s.sl.map intD))),(d,some (.row fixV 29 1 false (s.er.map intD)))]
abbrev wRow' (l:List Bs):Bk:= .row 0 9 1 true (l.map strD)
def blockS (ns:List Nd) (w:Nat→Scp→Scp) (ks:List Int) (s:Scp):Scp:={(ks.foldl (blkS ns w) (s,[])).1 with vis:=(ks.foldl (blkS ns w) (s,[])).2.foldl delB (ks.foldl (blkS ns w) (s,[])).1.vis}
def WalkOk (p:Pg) (j:Nat) (F:Nat→Scp→Scp):Prop:=∀s:Scp,s.Fit p.nodes.length→MCallsG true Tryz.prog 96 [.bx 0 0,int j] (scM p s) (.tu []) (scM p (F j s))
theorem x_blockS (p:Pg) (n:Nd) (hk:n.kids.length≤1000000) (F:Nat→Scp→Scp) (hF:∀k s,s.Fit p.nodes.length→(F k s).Fit p.nodes.length) (hW:∀k∈n.kids,∃j:Nat,k=(j:Int)∧j<p.nodes.length∧WalkOk p j F) (s:Scp) (hs:s.Fit p.nodes.length):
  MCallsG true Tryz.prog 131 [.bx 0 0,nV n] (scM p s) (.tu []) (scM p (blockS p.nodes F n.kids s)):=by
 obtain⟨k0,tx,v0,ky,ks⟩:=n
 dsimp only at hk hW⊢
 have hll:(ks.map intD).length=ks.length:=List.length_map _
 refine msxx [(96,false)] Tryz.func131 (by kernel_rfl) (by kernel_rfl) (by rfl) ?_
 conv=>whnf
 rw[hll]
 refine⟨[(4,45,9,1)],Nat×Scp×List Bs,fun⟨k,_,_⟩=>[(13,int k),(4,.ow 45 0)],fun⟨_,s,l⟩=>scX p s 59 60 61 62++[(45,some (wRow' l))],
  fun⟨k,t,l⟩=>k≤ks.length∧t.Fit p.nodes.length∧l.length≤k∧(ks.drop k).foldl (blkS p.nodes F) (t,l)=ks.foldl (blkS p.nodes F) (s,[]),fun x=>ks.length - x.1,(0,s,[]),⟨Nat.zero_le _,hs,Nat.le_refl _,rfl⟩,?_,?_⟩
 ·refine⟨rfl,?_,?_⟩<;>repeat' (first|exact trivial|exact rfl|refine and_rfl ?_|refine and_two ?_ ?_)
 rintro⟨k,t,l⟩ ⟨b0,b1,b2,b3⟩
 conv=>whnf
 rintro(_|_) h1
 ·have h1:ks.length≤k:=by simp at h1;omega
  rw[List.drop_eq_nil_of_le h1] at b3
  have b3:(t,l)=ks.foldl (blkS p.nodes F) (s,[]):=b3
  have e:blockS p.nodes F ks s={t with vis:=l.foldl delB t.vis}:=by unfold blockS;rw[←b3]
  rw[e]
  have hl2:(l.map strD).length=l.length:=List.length_map _
  conv=>whnf
  rw[hl2]
  refine⟨[],Nat,fun m=>[(49,int m)],fun m=>[(60,some (.asr fixV (mapC (bM ((l.take m).foldl delB t.vis))) []))],fun m=>m≤l.length,fun m=>l.length - m,0,Nat.zero_le _,?_,?_⟩
  ·refine⟨rfl,?_,?_⟩<;>repeat' (first|exact trivial|exact rfl|refine and_rfl ?_|refine and_two ?_ ?_)
  rintro m hm
  have hm:m≤l.length:=hm
  conv=>whnf
  rintro(_|_) h2
  ·have h2:l.length≤m:=by simp at h2;omega
   rw[List.take_of_length_le h2]
   conv=>whnf
   exact⟨⟨rfl,rfl,rfl⟩,rfl⟩
  have h2:m<l.length:=by simp at h2;omega
  have e4:(l.take (m+1)).foldl delB t.vis=delB ((l.take m).foldl delB t.vis) l[m]:=by rw[List.take_succ_eq_append_getElem h2,List.foldl_append];rfl
  conv=>whnf
  refine⟨by omega,by rw[hl2];omega,?_⟩
  conv=>whnf
  refine⟨_,get_map strD h2,?_⟩
  conv=>whnf
  refine at_tr (del_b rfl rfl rfl rfl) ?_
  conv=>whnf
  refine⟨m+1,h2,by dsimp only;omega,?_⟩
  rw[←e4]
  refine⟨rfl,?_,?_⟩<;>repeat' (first|exact trivial|exact rfl|refine and_rfl ?_|refine and_val (wrap_succ (by omega)) ?_|refine and_two ?_ ?_)
 ·have h1:k<ks.length:=by simp at h1;omega
  obtain⟨j,e1,e2,e3⟩:=hW _ (List.getElem_mem h1)
  rw[List.drop_eq_getElem_cons h1,List.foldl_cons] at b3
  have hgj:(ks.map intD)[((k:Nat):Int).toNat]?=some (intD ((j:Nat):Int)):=by rw[←e1];exact get_map intD h1
  conv=>whnf
  refine⟨by omega,_,hgj,?_⟩
  conv=>whnf
  refine mcall (T:=TT) (φ:=[]) (gf:=false) (e3 t b1) ?_
  have b6:=hF j t b1
  rw[show blkS p.nodes F (t,l) ks[k]=(F j t,declS p.nodes j (F j t) l) by rw[e1];rfl] at b3
  generalize F j t=u at b3 b6⊢
  conv=>whnf
  refine⟨Int.natCast_nonneg j,_,get_map ndD e2,?_⟩
  have hgn:p.nodes[j]?=some p.nodes[j]:=List.getElem?_eq_getElem e2
  have he:j<u.er.length:=by rw[b6.2];exact e2
  conv=>whnf
  rintro(_|_) h3
  ·have h3:p.nodes[j].kind≠13:=by simpa using h3
   rw[show declS p.nodes j u l=l by unfold declS;rw[hgn];simp[h3]] at b3
   conv=>whnf
   refine⟨(k+1,u,l),⟨h1,b6,by omega,b3⟩,by dsimp only;omega,?_⟩
   refine⟨rfl,?_,?_⟩<;>repeat' (first|exact trivial|exact rfl|refine and_rfl ?_|refine and_val (wrap_succ (by omega)) ?_|refine and_two ?_ ?_)
  have h3:p.nodes[j].kind=13:=by simpa using h3
  conv=>whnf
  refine⟨Int.natCast_nonneg j,by rw[List.length_map,Int.toNat_natCast];exact he,?_⟩
  conv=>whnf
  refine⟨_,get_map intD he,?_⟩
  conv=>whnf
  rintro(_|_) h4
  ·have h4:u.er[j]≠0:=by simpa using h4
   rw[show declS p.nodes j u l=l by unfold declS;rw[hgn,List.getElem?_eq_getElem he];simp[h4]] at b3
   conv=>whnf
   refine⟨(k+1,u,l),⟨h1,b6,by omega,b3⟩,by dsimp only;omega,?_⟩
   refine⟨rfl,?_,?_⟩<;>repeat' (first|exact trivial|exact rfl|refine and_rfl ?_|refine and_val (wrap_succ (by omega)) ?_|refine and_two ?_ ?_)
  have h4:u.er[j]=0:=by simpa using h4
  rw[show declS p.nodes j u l=l++[p.nodes[j].text] by unfold declS;rw[hgn,List.getElem?_eq_getElem he];simp[h3,h4]] at b3
  conv=>whnf
  refine⟨by rw[List.length_map];show(l.length+1)*16≤_;omega,?_⟩
  conv=>whnf
  refine⟨(k+1,u,l++[p.nodes[j].text]),⟨h1,b6,by rw[List.length_append];simp;omega,b3⟩,by dsimp only;omega,?_⟩
  refine⟨rfl,?_,?_⟩<;>repeat' (first|exact trivial|exact rfl|(rw[List.map_append];exact rfl)|refine and_rfl ?_|refine and_val (wrap_succ (by omega)) ?_|refine and_two ?_ ?_)
end Go.Proofs.YtdccglkagfdooaaGreatDoor
namespace Go.Proofs.YtdccglkagfdooaaGreatDoor
open Go.RowKit
def wkM:List (Nat×Bool):=[(96,false),(131,false),(132,false),(133,true),(6000048,false)]
theorem x_walk1 (p:Pg) (hp:PgS p) (f i:Nat) (hi:i<p.nodes.length) (hW:∀k∈p.nodes[i].kids,∃j:Nat,k=(j:Int)∧j<p.nodes.length∧WalkOk p j (walkS p.nodes p.funcs f)):WalkOk p i (walkS p.nodes p.funcs (f+1)):=by
 intro s hs
 have hkl:=hp.kids _ (List.getElem_mem hi)
 have hdef:walkS p.nodes p.funcs (f+1) i s=if p.nodes[i].kind=19 then blockS p.nodes (walkS p.nodes p.funcs f) p.nodes[i].kids s else lastS p.funcs i p.nodes[i] (p.nodes[i].kids.foldl (fun s k=>walkS p.nodes p.funcs f k.toNat s) s):=by
  simp only[walkS,List.getElem?_eq_getElem hi];rfl
 have hfit:∀k s,s.Fit p.nodes.length→(walkS p.nodes p.funcs f k s).Fit p.nodes.length:=fun k s h=>walkS_fit f k s h
 have hgi:(p.nodes.map ndD)[((i:Nat):Int).toNat]?=some (ndD p.nodes[i]):=get_map ndD hi
 have hscall:=x_scall p hp
 generalize p.nodes[i]=n at*
 generalize hF:walkS p.nodes p.funcs f=F at*
 refine msxx wkM Tryz.func96 (by kernel_rfl) (by kernel_rfl) (by rfl) ?_
 conv=>whnf
 refine⟨Int.natCast_nonneg i,_,hgi,?_⟩
 conv=>whnf
 rintro(_|_) h19
 rotate_left
 ·have h19:n.kind=19:=by simpa using h19
  rw[if_pos h19] at hdef
  conv=>whnf
  refine mcall (T:=TM wkM) (φ:=[]) (gf:=false) (x_blockS p n hkl F hfit hW s hs) ?_
  conv=>whnf
  exact⟨⟨rfl,by rw[hdef];rfl,rfl⟩,rfl⟩
 have h19:n.kind≠19:=by simpa using h19
 rw[if_neg h19] at hdef
 have hll:(n.kids.map intD).length=n.kids.length:=List.length_map _
 conv=>whnf
 rw[hll]
 refine⟨[],Nat×Scp,fun⟨m,_⟩=>[(28,int m)],fun⟨_,t⟩=>scX p t 111 112 113 114,fun⟨m,t⟩=>m≤n.kids.length∧t.Fit p.nodes.length∧(n.kids.drop m).foldl (fun s k=>F k.toNat s) t=n.kids.foldl (fun s k=>F k.toNat s) s,fun x=>n.kids.length - x.1,(0,s),⟨Nat.zero_le _,hs,rfl⟩,?_,?_⟩
 ·refine⟨rfl,?_,?_⟩<;>repeat' (first|exact trivial|exact rfl|refine and_rfl ?_|refine and_two ?_ ?_)
 rintro⟨m,t⟩ ⟨b0,b1,b2⟩
 conv=>whnf
 rintro(_|_) h1
 rotate_left
 ·have h1:m<n.kids.length:=by simp at h1;omega
  obtain⟨j,e1,e2,e3⟩:=hW _ (List.getElem_mem h1)
  rw[List.drop_eq_getElem_cons h1,List.foldl_cons,e1,Int.toNat_natCast] at b2
  have hgj:(n.kids.map intD)[((m:Nat):Int).toNat]?=some (intD ((j:Nat):Int)):=by rw[←e1];exact get_map intD h1
  conv=>whnf
  refine⟨by omega,_,hgj,?_⟩
  conv=>whnf
  refine mcall (T:=TM wkM) (φ:=[]) (gf:=false) (e3 t b1) ?_
  conv=>whnf
  refine⟨(m+1,F j t),⟨h1,hfit j t b1,b2⟩,by dsimp only;omega,?_⟩
  refine⟨rfl,?_,?_⟩<;>repeat' (first|exact trivial|exact rfl|refine and_rfl ?_|refine and_val (wrap_succ (by omega)) ?_|refine and_two ?_ ?_)
 have h1:n.kids.length≤m:=by simp at h1;omega
 rw[List.drop_eq_nil_of_le h1] at b2
 have b2:t=n.kids.foldl (fun s k=>F k.toNat s) s:=b2
 rw[←b2] at hdef
 rw[hdef]
 clear hdef b2 hW hfit hF
 have hsl:i<t.sl.length:=by rw[b1.1];exact hi
 have her:i<t.er.length:=by rw[b1.2];exact hi
 obtain⟨vis,nx,sl,er⟩:=t
 dsimp only at hsl her
 obtain⟨kd,tx,v0,ky,ks⟩:=n
 dsimp only at h19 hkl
 by_cases h5:kd=5∨kd=14
 ·have hlast:lastS p.funcs i ⟨kd,tx,v0,ky,ks⟩ ⟨vis,nx,sl,er⟩=match getB vis tx with|some k=>⟨vis,nx,sl.set i k,er⟩|none=>⟨vis,nx,sl,er.set i 4⟩:=by unfold lastS;rw[if_pos h5];cases getB vis tx<;>rfl
  rw[hlast]
  rcases h5 with rfl|rfl
  all_goals
   repeat((conv=>whnf);first|refine known true rfl ?_|refine known false rfl ?_)
   refine⟨none,by kernel_rfl,?_⟩
   conv=>whnf
   refine at_rd (look_b rfl rfl rfl rfl) ?_
   cases hb:getB vis tx with
   |none=>
    conv=>whnf
    refine known true rfl ?_
    conv=>whnf
    refine⟨Int.natCast_nonneg i,by rw[List.length_map,Int.toNat_natCast];exact her,?_⟩
    conv=>whnf
    refine⟨_,get_map intD her,Nat.le_refl _,?_⟩
    rw[put_int er i 4 her]
    conv=>whnf
    exact⟨⟨rfl,rfl,rfl⟩,rfl⟩
   |some v=>
    conv=>whnf
    refine known false rfl ?_
    conv=>whnf
    refine⟨Int.natCast_nonneg i,by rw[List.length_map,Int.toNat_natCast];exact hsl,?_⟩
    conv=>whnf
    refine⟨_,get_map intD hsl,Nat.le_refl _,?_⟩
    rw[put_int sl i ((some v).getD 0) hsl]
    conv=>whnf
    exact⟨⟨rfl,rfl,rfl⟩,rfl⟩
 have h5':kd≠5:=fun e=>h5 (.inl e)
 have h14:kd≠14:=fun e=>h5 (.inr e)
 by_cases h13:kd=13
 ·subst h13
  rw[show lastS p.funcs i ⟨13,tx,v0,ky,ks⟩ ⟨vis,nx,sl,er⟩=letS i tx ⟨vis,nx,sl,er⟩ by unfold lastS;rw[if_neg h5,if_pos rfl]]
  repeat((conv=>whnf);first|refine known true rfl ?_|refine known false rfl ?_)
  refine mcall (T:=TM wkM) (φ:=[]) (gf:=false) (x_let p vis nx sl er i tx hsl her) ?_
  conv=>whnf
  exact⟨⟨rfl,rfl,rfl⟩,rfl⟩
 by_cases h11:kd=11
 ·subst h11
  rw[show lastS p.funcs i ⟨11,tx,v0,ky,ks⟩ ⟨vis,nx,sl,er⟩=⟨vis,nx,sl,er.set i (callE p.funcs ⟨11,tx,v0,ky,ks⟩)⟩ by unfold lastS;rw[if_neg h5,if_neg h13,if_pos rfl]]
  repeat((conv=>whnf);first|refine known true rfl ?_|refine known false rfl ?_)
  refine⟨none,by kernel_rfl,?_⟩
  conv=>whnf
  refine mcallC (T:=TM wkM) (ρ:=[111,112,113,114]) (gf:=false) (hscall vis nx sl er ⟨11,tx,v0,ky,ks⟩) ?_
  conv=>whnf
  refine⟨Int.natCast_nonneg i,by rw[List.length_map,Int.toNat_natCast];exact her,?_⟩
  conv=>whnf
  refine⟨_,get_map intD her,Nat.le_refl _,?_⟩
  rw[put_int er i _ her]
  conv=>whnf
  exact⟨⟨rfl,rfl,rfl⟩,rfl⟩
 by_cases h12:kd=12
 ·subst h12
  have hl:lastS p.funcs i ⟨12,tx,v0,ky,ks⟩ ⟨vis,nx,sl,er⟩=match getB hostT tx with
    |none=>⟨vis,nx,sl,er.set i 4⟩
    |some k=>if k=ks.length then⟨vis,nx,sl,er⟩ else⟨vis,nx,sl,er.set i 7⟩:=by
   unfold lastS
   rw[if_neg h5,if_neg h13,if_neg h11,if_pos rfl]
   cases h:getB hostT tx with
   |none=>simp[hostE,h]
   |some k=>by_cases e:k=(ks.length:Int)<;>simp[hostE,h,e]
  rw[hl]
  repeat((conv=>whnf);first|refine known true rfl ?_|refine known false rfl ?_)
  refine⟨_,x_hostop tx,?_⟩
  cases hb:getB hostT tx with
  |none=>
   conv=>whnf
   refine known true rfl ?_
   conv=>whnf
   refine⟨Int.natCast_nonneg i,by rw[List.length_map,Int.toNat_natCast];exact her,?_⟩
   conv=>whnf
   refine⟨_,get_map intD her,Nat.le_refl _,?_⟩
   rw[put_int er i 4 her]
   conv=>whnf
   exact⟨⟨rfl,rfl,rfl⟩,rfl⟩
  |some k=>
   conv=>whnf
   refine known false rfl ?_
   conv=>whnf
   rintro(_|_) h3
   ·have h3:k=ks.length:=by simpa using h3
    dsimp only
    rw[if_pos h3]
    conv=>whnf
    exact⟨⟨rfl,rfl,rfl⟩,rfl⟩
   ·have h3:k≠ks.length:=by simpa using h3
    dsimp only
    rw[if_neg h3]
    conv=>whnf
    refine⟨Int.natCast_nonneg i,by rw[List.length_map,Int.toNat_natCast];exact her,?_⟩
    conv=>whnf
    refine⟨_,get_map intD her,Nat.le_refl _,?_⟩
    rw[put_int er i 7 her]
    conv=>whnf
    exact⟨⟨rfl,rfl,rfl⟩,rfl⟩
 ·rw[show lastS p.funcs i ⟨kd,tx,v0,ky,ks⟩ ⟨vis,nx,sl,er⟩=⟨vis,nx,sl,er⟩ by unfold lastS;rw[if_neg h5,if_neg h13,if_neg h11,if_neg h12]]
  repeat((conv=>whnf);first|refine known false (by simpa using h5') ?_|refine known false (by simpa using h14) ?_|refine known false (by simpa using h13) ?_|refine known false (by simpa using h11) ?_|refine known false (by simpa using h12) ?_)
  exact⟨⟨rfl,rfl,rfl⟩,rfl⟩
end Go.Proofs.YtdccglkagfdooaaGreatDoor
namespace Go.Proofs.YtdccglkagfdooaaGreatDoor
open Go.RowKit
def twiceB:List Bs→List Bs→Bool
 |_,[]=>false
 |seen,x::l=>seen.contains x||twiceB (seen++[x]) l
def funcsF (all:List Fc):List Fc→Nat→Option Int
 |[],_=>none
 |f::l,i=>if(getB builtT f.name).isSome∨findN f.name all 0<i∨twiceB [] f.params=true then some f.body else funcsF all l (i+1)
def functionsE (fs:List Fc):Int×Int:=match funcsF fs fs 0 with
 |some b=>(b,6)
 |none=>if findN wMain fs 0<0 then(-1,5) else match fs[(findN wMain fs 0).toNat]? with
  |some f=>if f.params.length=1 then(0,0) else(f.body,7)
  |none=>(0,0)
def scope0 (f:Fc) (sl er:List Int):Scp:=⟨(f.params.zipIdx).foldl (fun l x=>putB l x.1 (x.2:Int)) [],f.params.length,sl,er⟩
def studyF (ns:List Nd) (fs:List Fc):List Fc→List Int→List Int→List Int→List Int×List Int×List Int
 |[],sl,er,lc=>(sl,er,lc)
 |f::l,sl,er,lc=>let s:=walkS ns fs (f.body.toNat+1) f.body.toNat (scope0 f sl er);studyF ns fs l s.sl s.er (lc++[s.nx])
def firstE:List Int→Nat→Int×Int
 |[],_=>(0,0)
 |e::l,i=>if e=0 then firstE l (i+1) else(i,e)
def studyP (ck:Int) (p:Pg):List Int×List Int×Int×Int:=
 if ck≠0 then([],[],-1,ck) else
 if(functionsE p.funcs).2≠0 then([],[],(functionsE p.funcs).1,(functionsE p.funcs).2) else
 let r:=studyF p.nodes p.funcs p.funcs (List.replicate p.nodes.length (-1)) (List.replicate p.nodes.length 0) []
 if(firstE r.2.1 0).2≠0 then([],[],(firstE r.2.1 0).1,(firstE r.2.1 0).2) else(r.1,r.2.2,0,0)
theorem funcsF_cons (all:List Fc) (f:Fc) (l:List Fc) (i:Nat):funcsF all (f::l) i=if(getB builtT f.name).isSome∨findN f.name all 0<i∨twiceB [] f.params=true then some f.body else funcsF all l (i+1):=rfl
theorem x_functionsS (p:Pg) (hp:PgS p):DCalls Tryz.prog 95 [p.V] (.tu [int (functionsE p.funcs).1,int (functionsE p.funcs).2]):=by
 have hlf:p.funcs.length≤8796093022207:=by have:=hp.fs;omega
 have hfind:=fun x=>x_sfind p x hlf
 have hps:=hp.ps
 obtain⟨ns,fs⟩:=p
 dsimp only at*
 have hll:(fs.map fcD).length=fs.length:=List.length_map _
 refine sx Tryz.func95 (by kernel_rfl) ?_
 conv=>whnf
 rw[hll]
 refine⟨[],Nat,fun k=>[(14,int k)],fun _=>[],fun k=>k≤fs.length∧funcsF fs (fs.drop k) k=funcsF fs fs 0,fun k=>fs.length - k,0,⟨Nat.zero_le _,rfl⟩,?_,?_⟩
 ·refine⟨rfl,?_,?_⟩<;>repeat' (first|exact trivial|exact rfl|refine and_rfl ?_|refine and_two ?_ ?_)
 rintro k ⟨b0,b1⟩
 have b0:k≤fs.length:=b0
 conv=>whnf
 rintro(_|_) h1
 ·have h1:fs.length≤k:=by simp at h1;omega
  rw[List.drop_eq_nil_of_le h1] at b1
  have b1:funcsF fs fs 0=none:=b1.symm
  conv=>whnf
  refine⟨_,hfind wMain,?_⟩
  rcases find_ar wMain fs 0 with⟨h2,_⟩|⟨j,hj,h2,_⟩
  ·have e:functionsE fs=(-1,5):=by unfold functionsE;rw[b1];dsimp only;rw[if_pos h2]
   rw[e]
   conv=>whnf
   refine known true (by simp;omega) ?_
   (conv=>whnf)<;>rfl
  ·have h2:findN wMain fs 0=(j:Int):=by rw[h2];simp
   have e:functionsE fs=if fs[j].params.length=1 then(0,0) else(fs[j].body,7):=by
    unfold functionsE;rw[b1];dsimp only
    rw[if_neg (by omega),h2,Int.toNat_natCast,List.getElem?_eq_getElem hj]
   rw[h2]
   conv=>whnf
   refine known false (by simp) ?_
   conv=>whnf
   refine⟨Int.natCast_nonneg j,_,get_map fcD hj,?_⟩
   have hjl:(fs[j].params.map strD).length=fs[j].params.length:=List.length_map _
   conv=>whnf
   rintro(_|_) h3
   ·have h3:fs[j].params.length=1:=by simp at h3;omega
    rw[if_pos h3] at e
    rw[e]
    (conv=>whnf)<;>rfl
   ·have h3:fs[j].params.length≠1:=by simp at h3;omega
    rw[if_neg h3] at e
    rw[e]
    conv=>whnf
    refine⟨Int.natCast_nonneg j,_,get_map fcD hj,?_⟩
    (conv=>whnf)<;>rfl
 have h1:k<fs.length:=by simp at h1;omega
 have hpk:=hps _ (List.getElem_mem h1)
 rw[List.drop_eq_getElem_cons h1,funcsF_cons] at b1
 have hgk:(fs.map fcD)[((k:Nat):Int).toNat]?=some (fcD fs[k]):=get_map fcD h1
 generalize fs[k]=f at b1 hgk hpk
 obtain⟨nm,ps,bd⟩:=f
 dsimp only at b1 hpk
 have yes:((getB builtT nm).isSome=true∨findN nm fs 0<k∨twiceB [] ps=true)→functionsE fs=(bd,6):=fun h=>by
  rw[if_pos h] at b1
  unfold functionsE;rw[←b1]
 conv=>whnf
 refine⟨by omega,_,hgk,?_⟩
 conv=>whnf
 refine⟨_,x_built nm,?_⟩
 conv=>whnf
 rintro(_|_) c1
 rotate_left
 ·rw[yes (.inl c1)]
  (conv=>whnf)<;>rfl
 conv=>whnf
 refine⟨_,hfind nm,?_⟩
 conv=>whnf
 rintro(_|_) c2
 rotate_left
 ·rw[yes (.inr (.inl (by simpa using c2)))]
  (conv=>whnf)<;>rfl
 have hpl:(ps.map strD).length=ps.length:=List.length_map _
 conv=>whnf
 rw[hpl]
 refine⟨[],Nat,fun m=>[(39,int m)],fun _=>[],fun m=>m≤ps.length∧twiceB (ps.take m) (ps.drop m)=twiceB [] ps,fun m=>ps.length - m,0,⟨Nat.zero_le _,rfl⟩,?_,?_⟩
 ·refine⟨rfl,?_,?_⟩<;>repeat' (first|exact trivial|exact rfl|refine and_rfl ?_|refine and_two ?_ ?_)
 rintro m ⟨d0,d1⟩
 have d0:m≤ps.length:=d0
 conv=>whnf
 rintro(_|_) h2
 ·have h2:ps.length≤m:=by simp at h2;omega
  rw[List.drop_eq_nil_of_le h2] at d1
  have d1:twiceB [] ps=false:=d1.symm
  rw[if_neg (by simp[c1,d1];simpa using c2)] at b1
  conv=>whnf
  refine⟨k+1,⟨h1,b1⟩,by dsimp only;omega,?_⟩
  refine⟨rfl,?_,?_⟩<;>repeat' (first|exact trivial|exact rfl|refine and_rfl ?_|refine and_val (wrap_succ (by omega)) ?_|refine and_two ?_ ?_)
 have h2:m<ps.length:=by simp at h2;omega
 rw[List.drop_eq_getElem_cons h2] at d1
 have hgm:(ps.map strD)[((m:Nat):Int).toNat]?=some (strD ps[m]):=get_map strD h2
 conv=>whnf
 refine⟨by omega,_,hgm,?_⟩
 conv=>whnf
 refine⟨Int.le_refl _,Int.natCast_nonneg m,by rw[hpl];omega,?_⟩
 conv=>whnf
 rw[show List.drop (Int.toNat 0) (List.take ((m:Nat):Int).toNat (List.map strD ps))=(ps.take m).map strD by rw[Int.toNat_natCast,List.map_take];rfl]
 refine⟨_,x_containsS (ps.take m) ps[m] (by rw[List.length_take];omega),?_⟩
 conv=>whnf
 rintro(_|_) c3
 ·have e:twiceB (ps.take m) (ps[m]::ps.drop (m+1))=twiceB (ps.take (m+1)) (ps.drop (m+1)):=by
   show((ps.take m).contains ps[m]||twiceB (ps.take m++[ps[m]]) (ps.drop (m+1)))=_
   rw[c3,Bool.false_or,List.take_succ_eq_append_getElem h2]
  rw[e] at d1
  conv=>whnf
  refine⟨m+1,⟨h2,d1⟩,by dsimp only;omega,?_⟩
  refine⟨rfl,?_,?_⟩<;>repeat' (first|exact trivial|exact rfl|refine and_rfl ?_|refine and_val (wrap_succ (by omega)) ?_|refine and_two ?_ ?_)
 ·have e:twiceB [] ps=true:=by
   rw[←d1]
   show((ps.take m).contains ps[m]||_)=true
   rw[c3,Bool.true_or]
  rw[yes (.inr (.inr e))]
  (conv=>whnf)<;>rfl
end Go.Proofs.YtdccglkagfdooaaGreatDoor
namespace Go.Proofs.YtdccglkagfdooaaGreatDoor
open Go.RowKit
section
variable {P:Program} {o:Oper} {E:Operand→V} {m:List (Option Bk)} {s d:TypeId} {x:Operand}
theorem byte_get {l:List UInt8} {i j:Nat} {d:D} (h:((l.map byteD)[i]?.bind fun x=>x[j]?)=some d):j=0∧∃b,l[i]?=some b∧d= .cv (.int .u8 (b.toNat:Nat)):=by
 rw[List.getElem?_map] at h
 cases hi:l[i]? with
 |none=>rw[hi] at h;cases h
 |some b=>
  rw[hi] at h
  cases j with
  |zero=>simp[byteD] at h;exact⟨rfl,b,rfl,h.symm⟩
  |succ j=>simp[byteD] at h
theorem Sat.bytes {B:Fr} {w0:World} {N:Names} {S:Sets} {t:List V} {a:Act} {w:World} (hs:Sat B w0 N S t m a w) {n k e g cap:Nat} {l l':List UInt8} {us':Array Value} {w':World}
  (hm:m[n]?=some (some (.row k e 1 true (l.map byteD)))) (hn:N n=some (k,.slice (some ⟨g,0,none⟩) l.length cap)) (hle:l.length≤cap) (hmax:cap≤maxLen) (hus:us'.size=cap)
  (hupd:Upd w w' g us' e) (hlen:l'.length=l.length) (hval:∀(j:Nat) (b:UInt8),l'[j]?=some b→us'[j]?=some (Value.int .u8 (b.toNat:Nat))):
  ∃N',Sat B w0 N' S t (m.set n (some (.row k e 1 true (l'.map byteD)))) a w':=by
 obtain⟨hB,hg⟩:=hs.own n _ _ g hn rfl
 have hfr:=row_new hs hm hn
 obtain⟨N',e1,e2,e3⟩:=hs.set (w':=w') (d:=n) (k:=k) (v:= .slice (some ⟨g,0,none⟩) l.length cap) (b:= .row k e 1 true (l'.map byteD)) (lt_of_get hm)
  (fun k0 v0 h=>by rw[hn] at h;cases h;exact .inl ⟨rfl,rfl⟩)
  (hupd.low hs.low hB) (by rw[hupd.size];exact Nat.le_refl _) (fun g' _ hk=>hupd.other g' fun e=>hk _ _ hn (by rw[e];rfl))
  (fun g' hg'=>by cases hg';exact⟨by rw[hupd.size];exact hg,.inr ⟨_,_,hn,rfl⟩⟩)
  (fun N' e1 e2 e3=>by
   refine⟨_,us'.toList.take l.length,e1,⟨?_,.inr ⟨g,cap,us',?_,Nat.zero_le _,hupd.new,?_,hmax,by rw[hus,Nat.mul_one],?_⟩⟩,?_,by omega,?_,fun _=>hfr⟩
   ·rw[List.length_take,List.length_map,hlen];simp[hus];omega
   ·rw[List.length_map,hlen]
   ·rw[List.length_map,hlen];exact hle
   ·rw[List.length_map,hlen,Nat.mul_one]
   ·intro x hx;obtain⟨b,_,rfl⟩:=List.mem_map.1 hx;rfl
   ·intro i j d hd
    obtain⟨rfl,b,hb,rfl⟩:=byte_get hd
    have hi:=lt_of_get hb
    refine⟨_,?_,.cv _ rfl⟩
    rw[show i*1+0=i by omega,List.getElem?_take,if_pos (by omega)]
    simpa using hval i b hb)
 exact⟨N',e3⟩
end
end Go.Proofs.YtdccglkagfdooaaGreatDoor
