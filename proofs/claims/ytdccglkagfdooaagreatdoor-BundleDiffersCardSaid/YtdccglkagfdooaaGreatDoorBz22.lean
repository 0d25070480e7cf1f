/- Texts joined by pack.py: XSyP8 XSyP9 -/
import Derived.Test.YtdccglkagfdooaaGreatDoorBz21
namespace Go.Proofs.YtdccglkagfdooaaGreatDoor
theorem Begins.noWrd {w:List Tok} (h:Begins 1 w) {s:Bs} (hs:s=wLet∨s=wIf∨s=wWhile∨s=wReturn∨s=wElse∨s=wFunc):isWrd s w=false:=by
 obtain⟨t,l,rfl,h⟩:=h
 unfold First at h
 simp only[isTk,Bool.and_eq_false_iff,decide_eq_false_iff_not,beq_eq_false_iff_ne]
 rcases h with h|h|h|h|⟨h,h2⟩|⟨h,_⟩|⟨h,_⟩|⟨h,h2,_⟩
 ·left;omega
 ·left;omega
 ·left;omega
 ·left;omega
 ·right;rcases h2 with h2|h2|h2<;>rw[h2]<;>rcases hs with rfl|rfl|rfl|rfl|rfl|rfl<;>decide
 ·left;omega
 ·left;omega
 ·right;rw[h2];rcases hs with rfl|rfl|rfl|rfl|rfl|rfl<;>decide
theorem qT_assigns {lv req:Int} {p r:List Tok} (h:assigns (p++r)=false):assigns (qT lv req p++r)=false:=by
 unfold qT
 split
 ·rfl
 ·exact h
theorem noEq_op {op:Bs} {k:Int} (h0:0<binL op) (r:List Tok):isSym sEq1 (tk k op::r)=false:=by
 have h1:op≠sEq1:=by rintro rfl;revert h0;decide
 simp[isTk,tk,h1]
theorem no_assigns:∀(n:Nat) (T:Tr),T.size≤n→T.wf=true→exprK T.kind=true→∀r,isSym sEq1 r=false→assigns (T.tk++r)=false:=by
 intro n
 induction n with
 |zero=>intro T hn;have:=T.size_pos;omega
 |succ n ih=>
  intro T hn hw hk r hr
  obtain⟨a,ts⟩:=T
  obtain⟨hf,hc,hws⟩:=wf_parts hw
  have hk':exprK a.kind=true:=hk
  obtain⟨kind,text,val,keys⟩:=a
  simp only at hk' hc hf hws
  rcases exprK_cases hk' with rfl|rfl|rfl|rfl|rfl|rfl|rfl|rfl|rfl|rfl|rfl|rfl
  ·rfl
  ·rfl
  ·rfl
  ·rfl
  ·exact hr
  ·rfl
  ·rfl
  ·obtain⟨A,rfl⟩:=len1 (ts:=ts) (by simpa[countB] using hc)
   rcases(show text=sMi∨text=wNot by
    have h1:=fields_facts hf
    obtain rfl:=h1.1 (by simp)
    obtain rfl:=h1.2 (by simp) (by simp)
    simpa[fieldsB] using hf) with rfl|rfl<;>rfl
  ·obtain⟨A,B,rfl⟩:=len2 (ts:=ts) (by simpa[countB] using hc)
   have h1:=fields_facts hf
   obtain rfl:=h1.1 (by simp)
   obtain rfl:=h1.2 (by simp) (by simp)
   have hb0:0<binL text:=by simpa[fieldsB] using hf
   have hA:=wfs_expr (by decide) hws A (by simp)
   have htk:(Tr.node ⟨9,text,0,[]⟩ [A,B]).tk++r=qT A.level (if binL text=4 then 5 else binL text) A.tk++(tk (opK text) text::(qT B.level (binL text+1) B.tk++r)):=by
    show(qT A.level _ A.tk++tk (opK text) text::qT B.level _ B.tk)++r=_
    rw[List.append_assoc];rfl
   rw[htk]
   exact qT_assigns (ih A (by simp only[Tr.size,Tr.sizes] at hn;omega) hA.1 hA.2 _ (noEq_op hb0 _))
  ·obtain⟨A,B,rfl⟩:=len2 (ts:=ts) (by simpa[countB] using hc)
   have hA:=wfs_expr (by decide) hws A (by simp)
   have htk:(Tr.node ⟨10,text,val,keys⟩ [A,B]).tk++r=qT A.level 8 A.tk++(sy sLB::(B.tk++[sy sRB]++r)):=by
    show(qT A.level 8 A.tk++sy sLB::(B.tk++[sy sRB]))++r=_
    rw[List.append_assoc];rfl
   rw[htk]
   exact qT_assigns (ih A (by simp only[Tr.size,Tr.sizes] at hn;omega) hA.1 hA.2 _ rfl)
  ·rfl
  ·rfl
structure WellS (S:Pars) (T:Tr):Prop where
 rd:∀r,isWrd wElse r=false→Rd1 S T T.tk r
 noRC:∀r,isSym sRC (T.tk++r)=false
 noElse:∀r,isWrd wElse (T.tk++r)=false
 ne:T.tk≠[]
section
variable {e:Int}
theorem value_good {f:Nat} {A:Tr} (hA:Well (exprP e f) A) {a:Lab} (ha:a.val=0∧a.keys=[]) (r:List Tok) (ns:List Nd):
  valueP e f a.kind a.text (A.tk++[sy sSc]++r) ns= .ok (((ns.length+(Tr.node a [A]).size:Nat):Int) - 1,r,ns++(Tr.node a [A]).flat ns.length):=by
 have h1:=hA.rd (sy sSc::r) (stop_sy (by decide) (by decide) (by decide)) ns
 have:=addN_tree (a:=a) (ns:=ns) (Ts:=[A]) (r:=r) (l:=[((ns.length+A.size:Nat):Int) - 1]) (by simp[Tr.roots])
 rw[ha.1,ha.2] at this
 rw[List.append_assoc,List.singleton_append]
 unfold valueP
 rw[h1]
 simp only[mustT,isTk_hd,if_true,List.tail_cons]
 rw[←this]
 simp only[Tr.flats,List.append_nil,ndM]
theorem stop_block {r:List Tok}:Stop 1 (sy sLC::r):=stop_sy (by decide) (by decide) (by decide)
theorem stmts_good {S:Pars}:∀(Ts:List Tr),(∀X∈Ts,WellS S X)→∀(g:Nat) (Ts0:List Tr) (ns0:List Nd) (r:List Tok),Ts.length+1≤g→
  stmtsF e S g (Tr.roots ns0.length Ts0) ((Ts.map Tr.tk).flatten++sy sRC::r) (ns0++Tr.flats ns0.length Ts0)=
   .ok (((ns0.length+(Tr.node ⟨19,[],0,[]⟩ (Ts0++Ts)).size:Nat):Int) - 1,r,ns0++(Tr.node ⟨19,[],0,[]⟩ (Ts0++Ts)).flat ns0.length)
 |[],_,g,Ts0,ns0,r,hg=>by
  obtain⟨g,rfl⟩:∃k,g=k+1:=⟨g - 1,by omega⟩
  simp only[List.map_nil,List.flatten_nil,List.nil_append,stmtsF,isTk_hd,if_true,List.tail_cons,List.append_nil]
  exact addN_tree (a:=⟨19,[],0,[]⟩) rfl
 |T::Ts,hT,g,Ts0,ns0,r,hg=>by
  obtain⟨g,rfl⟩:∃k,g=k+1:=⟨g - 1,by simp at hg;omega⟩
  have hTT:=hT T (by simp)
  have hel:isWrd wElse ((Ts.map Tr.tk).flatten++sy sRC::r)=false:=by
   cases Ts with
   |nil=>rfl
   |cons T2 Ts=>
    simp only[List.map_cons,List.flatten_cons,List.append_assoc]
    exact(hT T2 (by simp)).noElse _
  have h1:=hTT.rd _ hel (ns0++Tr.flats ns0.length Ts0)
  have h2:=stmts_good Ts (fun X hX=>hT X (by simp[hX])) g (Ts0++[T]) ns0 r (by simp at hg⊢;omega)
  simp only[List.map_cons,List.flatten_cons,List.append_assoc] at h1 h2⊢
  simp only[stmtsF,hTT.noRC,Bool.false_eq_true,if_false,h1]
  simp only[List.cons_append,List.nil_append] at h2
  rw[←h2]
  simp only[Tr.roots_append,Tr.roots,Tr.flats_append,Tr.flats,List.append_nil,List.length_append,Tr.flats_length]
theorem len23 {ts:List Tr} (h:ts.length=2∨ts.length=3):(∃a b,ts=[a,b])∨(∃a b c,ts=[a,b,c]):=by
 rcases h with h|h
 ·exact .inl (len2 h)
 ·right
  match ts,h with
  |[a,b,c],_=>exact⟨a,b,c,rfl⟩
theorem blk_tk {B:Tr} (hk:B.kind=19):∃l,B.tk=sy sLC::l:=by
 obtain⟨⟨kind,text,val,keys⟩,ts⟩:=B
 have:kind=19:=hk
 subst this
 exact⟨_,rfl⟩
theorem stmt_good {f g:Nat} {Bl:Pars} (hE:∀T:Tr,T.wf=true→exprK T.kind=true→T.ht≤g→Well (exprP e f) T) (hB:∀T:Tr,T.wf=true→T.kind=19→T.ht≤g→∀r,Rd1 Bl T T.tk r) {T:Tr} (hw:T.wf=true) (hk:stmtK T.kind=true) (hh:T.ht≤g+1):WellS (stmtP e f Bl) T:=by
 obtain⟨a,ts⟩:=T
 obtain⟨hf,hc,hws⟩:=wf_parts hw
 have hk':stmtK a.kind=true:=hk
 have hth:Tr.hts ts≤g:=by simp only[Tr.ht] at hh;omega
 have hh1:∀X∈ts,X.ht≤g:=fun X hX=>by have:=Tr.ht_mem hX;omega
 obtain⟨kind,text,val,keys⟩:=a
 simp only at hk' hc hf hws
 have h1:=fields_facts hf
 have hkind:kind=13∨kind=14∨kind=15∨kind=16∨kind=17∨kind=18:=by
  simp only[stmtK,Bool.and_eq_true,decide_eq_true_eq] at hk'
  omega
 rcases hkind with rfl|rfl|rfl|rfl|rfl|rfl
 ·obtain rfl:=h1.1 (by simp);obtain rfl:=h1.2 (by simp) (by simp)
  obtain⟨A,rfl⟩:=len1 (ts:=ts) (by simpa[countB] using hc)
  have hA:=wfs_expr (by decide) hws A (by simp)
  have wA:=hE A hA.1 hA.2 (hh1 A (by simp))
  exact⟨fun r hr ns=>value_good (a:=⟨13,text,0,[]⟩) wA ⟨rfl,rfl⟩ r ns,fun r=>rfl,fun r=>rfl,by simp[Tr.tk,tkN,Tr.tkl]⟩
 ·obtain rfl:=h1.1 (by simp);obtain rfl:=h1.2 (by simp) (by simp)
  obtain⟨A,rfl⟩:=len1 (ts:=ts) (by simpa[countB] using hc)
  have hA:=wfs_expr (by decide) hws A (by simp)
  have wA:=hE A hA.1 hA.2 (hh1 A (by simp))
  exact⟨fun r hr ns=>value_good (a:=⟨14,text,0,[]⟩) wA ⟨rfl,rfl⟩ r ns,fun r=>rfl,fun r=>rfl,by simp[Tr.tk,tkN,Tr.tkl]⟩
 ·obtain rfl:=h1.1 (by simp);obtain rfl:=h1.2 (by simp) (by simp)
  obtain rfl:text=[]:=by simpa[fieldsB] using hf
  have hfit:∀(i:Nat) (X:Tr),ts[i]?=some X→X.wf=true∧(if 0<i then X.kind=19 else exprK X.kind=true):=fun i X hX=>by
   obtain⟨g1,g2⟩:=wfs_mem hws i X hX
   refine⟨g1,?_⟩
   simp only[Nat.zero_add,fitsB] at g2
   split
   ·rename_i hi;simpa[hi] using g2
   ·rename_i hi;simpa[hi] using g2
  rcases len23 (ts:=ts) (by simpa[countB] using hc) with⟨A,B,rfl⟩|⟨A,B,C,rfl⟩
  ·have hA:=hfit 0 A rfl
   have hB':=hfit 1 B rfl
   have wA:=hE A hA.1 (by simpa using hA.2) (hh1 A (by simp))
   have hBk:B.kind=19:=by simpa using hB'.2
   obtain⟨lB,hlB⟩:=blk_tk hBk
   refine⟨fun r hr ns=>?_,fun r=>rfl,fun r=>rfl,by simp[Tr.tk,tkN,Tr.tkl]⟩
   have e0:stmtP e f Bl ((Tr.node ⟨15,[],0,[]⟩ [A,B]).tk++r) ns=(match exprP e f (A.tk++B.tk++r) ns with
     | .error o=> .error o
     | .ok (c,r1,ns1)=>match Bl r1 ns1 with
      | .error o=> .error o
      | .ok (b,r2,ns2)=>
       if isWrd wElse r2 then
        (match Bl r2.tail ns2 with
        | .error o=> .error o
        | .ok (b2,r3,ns3)=>addN (ndM 15 [] 0 [c,b,b2]) r3 ns3)
       else addN (ndM 15 [] 0 [c,b]) r2 ns2):=rfl
   have e1:=wA.rd (B.tk++r) (by rw[hlB];exact stop_block) ns
   have e2:=hB B hB'.1 hBk (hh1 B (by simp)) r (ns++A.flat ns.length)
   rw[e0,List.append_assoc,e1]
   simp only[e2,hr,Bool.false_eq_true,if_false]
   have:=addN_tree (a:=⟨15,[],0,[]⟩) (ns:=ns) (Ts:=[A,B]) (r:=r) (l:=[((ns.length+A.size:Nat):Int) - 1,(((ns++A.flat ns.length).length+B.size:Nat):Int) - 1]) (by simp[Tr.roots,Tr.flat_length])
   rw[←this]
   simp only[Tr.flats,List.append_nil,List.append_assoc,List.length_append,Tr.flat_length,ndM]
  ·have hA:=hfit 0 A rfl
   have hB':=hfit 1 B rfl
   have hC':=hfit 2 C rfl
   have wA:=hE A hA.1 (by simpa using hA.2) (hh1 A (by simp))
   have hBk:B.kind=19:=by simpa using hB'.2
   have hCk:C.kind=19:=by simpa using hC'.2
   obtain⟨lB,hlB⟩:=blk_tk hBk
   refine⟨fun r hr ns=>?_,fun r=>rfl,fun r=>rfl,by simp[Tr.tk,tkN,Tr.tkl]⟩
   have e0:stmtP e f Bl ((Tr.node ⟨15,[],0,[]⟩ [A,B,C]).tk++r) ns=(match exprP e f (A.tk++B.tk++wd wElse::C.tk++r) ns with
     | .error o=> .error o
     | .ok (c,r1,ns1)=>match Bl r1 ns1 with
      | .error o=> .error o
      | .ok (b,r2,ns2)=>
       if isWrd wElse r2 then
        (match Bl r2.tail ns2 with
        | .error o=> .error o
        | .ok (b2,r3,ns3)=>addN (ndM 15 [] 0 [c,b,b2]) r3 ns3)
       else addN (ndM 15 [] 0 [c,b]) r2 ns2):=rfl
   have e1:=wA.rd (B.tk++(wd wElse::(C.tk++r))) (by rw[hlB];exact stop_block) ns
   have e2:=hB B hB'.1 hBk (hh1 B (by simp)) (wd wElse::(C.tk++r)) (ns++A.flat ns.length)
   have e3:=hB C hC'.1 hCk (hh1 C (by simp)) r (ns++A.flat ns.length++B.flat (ns++A.flat ns.length).length)
   have e4:A.tk++B.tk++wd wElse::C.tk++r=A.tk++(B.tk++(wd wElse::(C.tk++r))):=by simp
   rw[e0,e4,e1]
   simp only[e2,isTk_hd,if_true,List.tail_cons,e3]
   have:=addN_tree (a:=⟨15,[],0,[]⟩) (ns:=ns) (Ts:=[A,B,C]) (r:=r) (l:=[((ns.length+A.size:Nat):Int) - 1,(((ns++A.flat ns.length).length+B.size:Nat):Int) - 1,(((ns++A.flat ns.length++B.flat (ns++A.flat ns.length).length).length+C.size:Nat):Int) - 1]) (by simp only[Tr.roots,List.length_append,Tr.flat_length,Nat.add_assoc])
   rw[←this]
   simp only[Tr.flats,List.append_nil,List.append_assoc,List.length_append,Tr.flat_length,ndM,Nat.add_assoc]
 ·obtain rfl:=h1.1 (by simp);obtain rfl:=h1.2 (by simp) (by simp)
  obtain rfl:text=[]:=by simpa[fieldsB] using hf
  obtain⟨A,B,rfl⟩:=len2 (ts:=ts) (by simpa[countB] using hc)
  have hA:=wfs_mem hws 0 A rfl
  have hB':=wfs_mem hws 1 B rfl
  have hAk:exprK A.kind=true:=by simpa[fitsB] using hA.2
  have hBk:B.kind=19:=by simpa[fitsB] using hB'.2
  have wA:=hE A hA.1 hAk (hh1 A (by simp))
  obtain⟨lB,hlB⟩:=blk_tk hBk
  refine⟨fun r hr ns=>?_,fun r=>rfl,fun r=>rfl,by simp[Tr.tk,tkN,Tr.tkl]⟩
  have e0:stmtP e f Bl ((Tr.node ⟨16,[],0,[]⟩ [A,B]).tk++r) ns=(match exprP e f (A.tk++B.tk++r) ns with
    | .error o=> .error o
    | .ok (c,r1,ns1)=>match Bl r1 ns1 with
     | .error o=> .error o
     | .ok (b,r2,ns2)=>addN (ndM 16 [] 0 [c,b]) r2 ns2):=rfl
  have e1:=wA.rd (B.tk++r) (by rw[hlB];exact stop_block) ns
  have e2:=hB B hB'.1 hBk (hh1 B (by simp)) r (ns++A.flat ns.length)
  rw[e0,List.append_assoc,e1]
  simp only[e2]
  have:=addN_tree (a:=⟨16,[],0,[]⟩) (ns:=ns) (Ts:=[A,B]) (r:=r) (l:=[((ns.length+A.size:Nat):Int) - 1,(((ns++A.flat ns.length).length+B.size:Nat):Int) - 1]) (by simp[Tr.roots,Tr.flat_length])
  rw[←this]
  simp only[Tr.flats,List.append_nil,List.append_assoc,List.length_append,Tr.flat_length,ndM]
 ·obtain rfl:=h1.1 (by simp);obtain rfl:=h1.2 (by simp) (by simp)
  obtain rfl:text=[]:=by simpa[fieldsB] using hf
  obtain⟨A,rfl⟩:=len1 (ts:=ts) (by simpa[countB] using hc)
  have hA:=wfs_expr (by decide) hws A (by simp)
  have wA:=hE A hA.1 hA.2 (hh1 A (by simp))
  exact⟨fun r hr ns=>value_good (a:=⟨17,[],0,[]⟩) wA ⟨rfl,rfl⟩ r ns,fun r=>rfl,fun r=>rfl,by simp[Tr.tk,tkN,Tr.tkl]⟩
 ·obtain rfl:=h1.1 (by simp);obtain rfl:=h1.2 (by simp) (by simp)
  obtain rfl:text=[]:=by simpa[fieldsB] using hf
  obtain⟨A,rfl⟩:=len1 (ts:=ts) (by simpa[countB] using hc)
  have hA:=wfs_expr (by decide) hws A (by simp)
  have wA:=hE A hA.1 hA.2 (hh1 A (by simp))
  have htk:(Tr.node ⟨18,[],0,[]⟩ [A]).tk=A.tk++[sy sSc]:=rfl
  have hb:∀r,Begins 1 (A.tk++[sy sSc]++r):=fun r=>by rw[List.append_assoc];exact wA.begins.app
  refine⟨fun r hr ns=>?_,fun r=>?_,fun r=>?_,?_⟩
  ·rw[htk]
   have hna:assigns (A.tk++[sy sSc]++r)=false:=by
    rw[List.append_assoc]
    exact no_assigns _ A (Nat.le_refl _) hA.1 hA.2 _ rfl
   unfold stmtP
   rw[(hb r).noWrd (by simp),(hb r).noWrd (by simp),(hb r).noWrd (by simp),(hb r).noWrd (by simp),hna]
   simp only[Bool.false_eq_true,if_false]
   exact value_good (a:=⟨18,[],0,[]⟩) wA ⟨rfl,rfl⟩ r ns
  ·rw[htk];exact(hb r).noClose (by simp)
  ·rw[htk];exact(hb r).noWrd (by simp)
  ·rw[htk];simp
theorem block_good:∀(f:Nat) (T:Tr),T.wf=true→T.kind=19→T.ht≤f→∀r,Rd1 (blockP e f) T T.tk r
 |0,T,_,_,h,r=>by cases T;simp[Tr.ht] at h
 |f+1,T,hw,hk,hh,r=>by
  obtain⟨a,ts⟩:=T
  obtain⟨hf,hc,hws⟩:=wf_parts hw
  have hth:Tr.hts ts≤f:=by simp only[Tr.ht] at hh;omega
  obtain⟨kind,text,val,keys⟩:=a
  have:kind=19:=hk
  subst this
  simp only at hf hws
  have h1:=fields_facts hf
  obtain rfl:=h1.1 (by simp);obtain rfl:=h1.2 (by simp) (by simp)
  obtain rfl:text=[]:=by simpa[fieldsB] using hf
  have hS:∀X∈ts,WellS (stmtP e (f+1) (blockP e f)) X:=fun X hX=>by
   obtain⟨i,hi⟩:=List.getElem?_of_mem hX
   obtain⟨g1,g2⟩:=wfs_mem hws i X hi
   have hX':X.ht≤f:=by have:=Tr.ht_mem hX;omega
   have hk2:stmtK X.kind=true:=by simpa[fitsB] using g2
   exact stmt_good (g:=f - 1) (fun T h1 h2 h3=>expr_good (f+1) T h1 h2 (by omega)) (fun T h1 h2 h3=>block_good f T h1 h2 (by omega)) g1 hk2 (by omega)
  intro ns
  have htk:(Tr.node ⟨19,[],0,[]⟩ ts).tk=sy sLC::((Tr.tkl ts).flatten++[sy sRC]):=rfl
  have e1:=stmts_good (e:=e) ts hS (((Tr.tkl ts).flatten++sy sRC::r).length+1) [] ns r (by
   have:ts.length≤(Tr.tkl ts).flatten.length:=by
    rw[Tr.tkl_eq]
    have:∀l:List Tr,(∀X∈l,X.tk≠[])→l.length≤(l.map Tr.tk).flatten.length:=by
     intro l
     induction l with
     |nil=>intro _;simp
     |cons x l ih=>
      intro h
      have h1:=List.length_pos_iff.2 (h x (by simp))
      have h2:=ih fun X hX=>h X (by simp[hX])
      simp only[List.map_cons,List.flatten_cons,List.length_append,List.length_cons]
      omega
    exact this ts fun X hX=>(hS X hX).ne
   simp only[List.length_append,List.length_cons]
   omega)
  rw[htk,List.cons_append,List.append_assoc,List.singleton_append]
  simp only[blockP,mustT,isTk_hd,if_true,List.tail_cons]
  rw[←Tr.tkl_eq] at e1
  simpa[Tr.roots,Tr.flats] using e1
end
end Go.Proofs.YtdccglkagfdooaaGreatDoor
namespace Go.Proofs.YtdccglkagfdooaaGreatDoor
theorem qT_len (lv req:Int) (p:List Tok):p.length≤(qT lv req p).length:=by
 unfold qT
 split
 ·simp only[List.length_cons,List.length_append];omega
 ·exact Nat.le_refl _
theorem commaT_mem:∀{ps:List (List Tok)} {p:List Tok},p∈ps→p.length≤(commaT ps).length
 |[],p,h=>by cases h
 |[q],p,h=>by rw[List.mem_singleton.1 h];exact Nat.le_refl _
 |q::q2::l,p,h=>by
  simp only[commaT,List.length_append,List.length_cons]
  rcases List.mem_cons.1 h with rfl|h
  ·omega
  ·have:=commaT_mem (ps:=q2::l) h;omega
theorem keysT_mem:∀{ks:List Bs} {ps:List (List Tok)} {p:List Tok},ks.length=ps.length→p∈ps→∃q∈keysT ks ps,p.length≤q.length
 |[],[],p,_,h=>by cases h
 |[],_::_,p,h,_=>by simp at h
 |_::_,[],p,h,_=>by simp at h
 |k::ks,q::ps,p,hl,h=>by
  simp only[keysT]
  rcases List.mem_cons.1 h with rfl|h
  ·exact⟨_,List.mem_cons_self ..,by simp only[List.length_cons];omega⟩
  ·obtain⟨x,hx,hx2⟩:=keysT_mem (ks:=ks) (by simpa using hl) h
   exact⟨x,List.mem_cons_of_mem _ hx,hx2⟩
theorem flat_mem {ps:List (List Tok)} {p:List Tok} (h:p∈ps):p.length≤ps.flatten.length:=by
 induction ps with
 |nil=>cases h
 |cons q ps ih=>
  simp only[List.flatten_cons,List.length_append]
  rcases List.mem_cons.1 h with rfl|h
  ·omega
  ·have:=ih h;omega
theorem count_cases {k:Int} {n:Nat} (h:countB k n=true):(1≤k∧k≤5∧n=0)∨(k=8∧n=1)∨(k=13∧n=1)∨(k=14∧n=1)∨(k=17∧n=1)∨(k=18∧n=1)∨(k=9∧n=2)∨(k=10∧n=2)∨(k=16∧n=2)∨(k=15∧n=2)∨(k=15∧n=3)∨k=6∨k=7∨k=11∨k=12∨k=19:=by
 unfold countB at h
 split at h
 ·rename_i hk
  exact .inl ⟨hk.1,hk.2,of_decide_eq_true h⟩
 split at h
 ·rename_i hk
  have h:=of_decide_eq_true h
  rcases hk with rfl|rfl|rfl|rfl|rfl<;>simp[h]
 split at h
 ·rename_i hk
  have h:=of_decide_eq_true h
  rcases hk with rfl|rfl|rfl<;>simp[h]
 split at h
 ·rename_i hk
  subst hk
  simp only[Bool.or_eq_true,decide_eq_true_eq] at h
  rcases h with h|h<;>simp[h]
 ·have h:=of_decide_eq_true h
  rcases h with rfl|rfl|rfl|rfl|rfl<;>simp
theorem len3 {ts:List Tr} (h:ts.length=3):∃a b c,ts=[a,b,c]:=by
 match ts,h with
 |[a,b,c],_=>exact⟨a,b,c,rfl⟩
theorem tk_len {T:Tr} (hw:T.wf=true):1≤T.tk.length∧∀X,(∃a ts,T= .node a ts∧X∈ts)→X.tk.length+1≤T.tk.length:=by
 obtain⟨⟨kind,text,val,keys⟩,ts⟩:=T
 obtain⟨hf,hc,hws⟩:=wf_parts hw
 simp only at hf hc hws
 have fin:(1≤(Tr.node ⟨kind,text,val,keys⟩ ts).tk.length∧∀X∈ts,X.tk.length+1≤(Tr.node ⟨kind,text,val,keys⟩ ts).tk.length)→1≤(Tr.node ⟨kind,text,val,keys⟩ ts).tk.length∧∀X,(∃a us,Tr.node ⟨kind,text,val,keys⟩ ts= .node a us∧X∈us)→X.tk.length+1≤(Tr.node ⟨kind,text,val,keys⟩ ts).tk.length:=by
  rintro⟨h1,h2⟩
  refine⟨h1,?_⟩
  rintro X ⟨a,us,he,hX⟩
  cases he
  exact h2 X hX
 refine fin ?_
 have hmem:∀X∈ts,X.tk∈Tr.tkl ts:=fun X hX=>by rw[Tr.tkl_eq];exact List.mem_map_of_mem hX
 have comma:∀X∈ts,X.tk.length≤(commaT (Tr.tkl ts)).length:=fun X hX=>commaT_mem (hmem X hX)
 rcases count_cases hc with⟨h1,h2,h0⟩|⟨rfl,h0⟩|⟨rfl,h0⟩|⟨rfl,h0⟩|⟨rfl,h0⟩|⟨rfl,h0⟩|⟨rfl,h0⟩|⟨rfl,h0⟩|⟨rfl,h0⟩|⟨rfl,h0⟩|⟨rfl,h0⟩|rfl|rfl|rfl|rfl|rfl
 ·obtain rfl:=len0 h0
  refine⟨?_,fun X hX=>by cases hX⟩
  have:kind=1∨kind=2∨kind=3∨kind=4∨kind=5:=by omega
  rcases this with rfl|rfl|rfl|rfl|rfl<;>exact Nat.le_refl 1
 ·obtain⟨A,rfl⟩:=len1 h0
  have:(Tr.node ⟨8,text,val,keys⟩ [A]).tk=if text=wNot then wd wNot::qT A.level 3 A.tk else sy sMi::qT A.level 7 A.tk:=rfl
  rw[this]
  have l1:=qT_len A.level 3 A.tk
  have l2:=qT_len A.level 7 A.tk
  split<;>(refine⟨by simp only[List.length_cons];omega,fun X hX=>?_⟩;rw[List.mem_singleton.1 hX];simp only[List.length_cons];omega)
 ·obtain⟨A,rfl⟩:=len1 h0
  have:(Tr.node ⟨13,text,val,keys⟩ [A]).tk=wd wLet::tk 1 text::sy sEq1::(A.tk++[sy sSc]):=rfl
  rw[this]
  refine⟨by simp only[List.length_cons,List.length_append];omega,fun X hX=>?_⟩;rw[List.mem_singleton.1 hX];simp only[List.length_cons,List.length_append];omega
 ·obtain⟨A,rfl⟩:=len1 h0
  have:(Tr.node ⟨14,text,val,keys⟩ [A]).tk=tk 1 text::sy sEq1::(A.tk++[sy sSc]):=rfl
  rw[this]
  refine⟨by simp only[List.length_cons,List.length_append];omega,fun X hX=>?_⟩;rw[List.mem_singleton.1 hX];simp only[List.length_cons,List.length_append];omega
 ·obtain⟨A,rfl⟩:=len1 h0
  have:(Tr.node ⟨17,text,val,keys⟩ [A]).tk=wd wReturn::(A.tk++[sy sSc]):=rfl
  rw[this]
  refine⟨by simp only[List.length_cons,List.length_append];omega,fun X hX=>?_⟩;rw[List.mem_singleton.1 hX];simp only[List.length_cons,List.length_append];omega
 ·obtain⟨A,rfl⟩:=len1 h0
  have:(Tr.node ⟨18,text,val,keys⟩ [A]).tk=A.tk++[sy sSc]:=rfl
  rw[this]
  refine⟨by simp only[List.length_cons,List.length_append];omega,fun X hX=>?_⟩;rw[List.mem_singleton.1 hX];simp
 ·obtain⟨A,B,rfl⟩:=len2 h0
  have:(Tr.node ⟨9,text,val,keys⟩ [A,B]).tk=qT A.level (if binL text=4 then 5 else binL text) A.tk++tk (opK text) text::qT B.level (binL text+1) B.tk:=rfl
  rw[this]
  have l1:=qT_len A.level (if binL text=4 then 5 else binL text) A.tk
  have l2:=qT_len B.level (binL text+1) B.tk
  refine⟨by simp only[List.length_cons,List.length_append];omega,fun X hX=>?_⟩
  simp only[List.mem_cons,List.not_mem_nil,or_false] at hX
  simp only[List.length_cons,List.length_append]
  rcases hX with rfl|rfl<;>omega
 ·obtain⟨A,B,rfl⟩:=len2 h0
  have:(Tr.node ⟨10,text,val,keys⟩ [A,B]).tk=qT A.level 8 A.tk++sy sLB::(B.tk++[sy sRB]):=rfl
  rw[this]
  have l1:=qT_len A.level 8 A.tk
  refine⟨by simp only[List.length_cons,List.length_append];omega,fun X hX=>?_⟩
  simp only[List.mem_cons,List.not_mem_nil,or_false] at hX
  simp only[List.length_cons,List.length_append]
  rcases hX with rfl|rfl<;>omega
 ·obtain⟨A,B,rfl⟩:=len2 h0
  have:(Tr.node ⟨16,text,val,keys⟩ [A,B]).tk=wd wWhile::(A.tk++B.tk):=rfl
  rw[this]
  refine⟨by simp only[List.length_cons,List.length_append];omega,fun X hX=>?_⟩
  simp only[List.mem_cons,List.not_mem_nil,or_false] at hX
  simp only[List.length_cons,List.length_append]
  rcases hX with rfl|rfl<;>omega
 ·obtain⟨A,B,rfl⟩:=len2 h0
  have:(Tr.node ⟨15,text,val,keys⟩ [A,B]).tk=wd wIf::(A.tk++B.tk):=rfl
  rw[this]
  refine⟨by simp only[List.length_cons,List.length_append];omega,fun X hX=>?_⟩
  simp only[List.mem_cons,List.not_mem_nil,or_false] at hX
  simp only[List.length_cons,List.length_append]
  rcases hX with rfl|rfl<;>omega
 ·obtain⟨A,B,C,rfl⟩:=len3 h0
  have:(Tr.node ⟨15,text,val,keys⟩ [A,B,C]).tk=wd wIf::(A.tk++B.tk++wd wElse::C.tk):=rfl
  rw[this]
  refine⟨by simp only[List.length_cons,List.length_append];omega,fun X hX=>?_⟩
  simp only[List.mem_cons,List.not_mem_nil,or_false] at hX
  simp only[List.length_cons,List.length_append]
  rcases hX with rfl|rfl|rfl<;>omega
 ·have:(Tr.node ⟨6,text,val,keys⟩ ts).tk=sy sLB::(commaT (Tr.tkl ts)++[sy sRB]):=rfl
  rw[this]
  refine⟨by simp only[List.length_cons,List.length_append];omega,fun X hX=>?_⟩
  have:=comma X hX
  simp only[List.length_cons,List.length_append];omega
 ·have:(Tr.node ⟨7,text,val,keys⟩ ts).tk=sy sLC::(commaT (keysT keys (Tr.tkl ts))++[sy sRC]):=rfl
  rw[this]
  refine⟨by simp only[List.length_cons,List.length_append];omega,fun X hX=>?_⟩
  obtain rfl:=(fields_facts hf).2 (by simp) (by simp)
  obtain⟨⟨_,h2⟩,_⟩:(text=[]∧keys.length=ts.length)∧ascB keys=true:=by simpa[fieldsB] using hf
  obtain⟨q,hq,hq2⟩:=keysT_mem (ks:=keys) (by rw[h2,Tr.tkl_eq,List.length_map]) (hmem X hX)
  have:=commaT_mem hq
  simp only[List.length_cons,List.length_append];omega
 ·have:(Tr.node ⟨11,text,val,keys⟩ ts).tk=tk 1 text::sy sLP::(commaT (Tr.tkl ts)++[sy sRP]):=rfl
  rw[this]
  refine⟨by simp only[List.length_cons,List.length_append];omega,fun X hX=>?_⟩
  have:=comma X hX
  simp only[List.length_cons,List.length_append];omega
 ·have:(Tr.node ⟨12,text,val,keys⟩ ts).tk=tk 6 text::sy sLP::(commaT (Tr.tkl ts)++[sy sRP]):=rfl
  rw[this]
  refine⟨by simp only[List.length_cons,List.length_append];omega,fun X hX=>?_⟩
  have:=comma X hX
  simp only[List.length_cons,List.length_append];omega
 ·have:(Tr.node ⟨19,text,val,keys⟩ ts).tk=sy sLC::((Tr.tkl ts).flatten++[sy sRC]):=rfl
  rw[this]
  refine⟨by simp only[List.length_cons,List.length_append];omega,fun X hX=>?_⟩
  have:=flat_mem (hmem X hX)
  simp only[List.length_cons,List.length_append];omega
theorem hts_le {m:Nat}:∀{ts:List Tr},(∀X∈ts,X.ht≤m)→Tr.hts ts≤m
 |[],_=>Nat.zero_le _
 |t::ts,h=>by
  simp only[Tr.hts]
  have h1:=h t (by simp)
  have h2:=hts_le fun X hX=>h X (List.mem_cons_of_mem _ hX)
  omega
theorem ht_le:∀(n:Nat) (T:Tr),T.size≤n→T.wf=true→T.ht≤T.tk.length:=by
 intro n
 induction n with
 |zero=>intro T hn;have:=T.size_pos;omega
 |succ n ih=>
  intro T hn hw
  obtain⟨a,ts⟩:=T
  obtain⟨h1,h2⟩:=tk_len hw
  obtain⟨_,_,hws⟩:=wf_parts hw
  have:Tr.hts ts≤(Tr.node a ts).tk.length - 1:=hts_le fun X hX=>by
   have h3:=h2 X ⟨a,ts,rfl,hX⟩
   obtain⟨i,hi⟩:=List.getElem?_of_mem hX
   have h4:=(wfs_mem hws i X hi).1
   have h5:X.size≤n:=by
    have:∀(l:List Tr),X∈l→X.size≤Tr.sizes l:=by
     intro l
     induction l with
     |nil=>intro h;cases h
     |cons y l ih=>
      intro h
      simp only[Tr.sizes]
      rcases List.mem_cons.1 h with rfl|h
      ·omega
      ·have:=ih h;omega
    have:=this ts hX
    simp only[Tr.size] at hn
    omega
   have:=ih X h5 h4
   omega
  simp only[Tr.ht];omega
theorem parF_good {e:Int}:∀(ps:List Bs) (p:Bs) (f:Nat) (l:List Bs) (r:List Tok),ps.length+1≤f→parF e f l (parT (p::ps)++sy sRP::r)= .ok (l++p::ps,r)
 |[],p,f,l,r,hf=>by
  obtain⟨f,rfl⟩:∃k,f=k+1:=⟨f - 1,by omega⟩
  rfl
 |q::ps,p,f,l,r,hf=>by
  obtain⟨f,rfl⟩:∃k,f=k+1:=⟨f - 1,by simp at hf;omega⟩
  have:=parF_good (e:=e) ps q f (l++[p]) r (by simp at hf⊢;omega)
  have e1:parF e (f+1) l (parT (p::q::ps)++sy sRP::r)=parF e f (l++[p]) (parT (q::ps)++sy sRP::r):=rfl
  rw[e1,this]
  simp
theorem parT_len:∀ps:List Bs,ps.length≤(parT ps).length
 |[]=>Nat.le_refl _
 |[p]=>Nat.le_refl _
 |p::q::l=>by
  have:=parT_len (q::l)
  simp only[parT,List.length_cons] at this⊢
  omega
theorem parP_good {e:Int} (ps:List Bs) (r:List Tok):parP e (parT ps++sy sRP::r)= .ok (ps,r):=by
 cases ps with
 |nil=>rfl
 |cons p ps=>
  have h0:isSym sRP (parT (p::ps)++sy sRP::r)=false:=by cases ps<;>rfl
  unfold parP
  rw[h0]
  simp only[Bool.false_eq_true,if_false]
  have:=parT_len (p::ps)
  rw[parF_good ps p _ [] r (by simp only[List.length_append,List.length_cons] at this⊢;omega)]
  rfl
theorem funcP_good {e:Int} {f:Nat} {F:FnT} (hF:FnTOk F) (hh:F.body.ht≤f) (r:List Tok) (ns:List Nd):
  funcP e f (F.tk++r) ns= .ok (⟨F.name,F.params,((ns.length+F.body.size:Nat):Int) - 1⟩,r,ns++F.body.flat ns.length):=by
 have h1:=parP_good (e:=e) F.params (F.body.tk++r)
 have h2:=block_good (e:=e) f F.body hF.wf hF.kind hh r ns
 have e0:funcP e f (F.tk++r) ns=(match parP e (parT F.params++sy sRP::F.body.tk++r) with
   | .error o=> .error o
   | .ok (ps,r4)=>match blockP e f r4 ns with
    | .error o=> .error o
    | .ok (b,r5,ns5)=> .ok (⟨F.name,ps,b⟩,r5,ns5)):=rfl
 rw[e0,List.append_assoc,List.cons_append,h1]
 simp only[h2]
theorem progF_good {e:Int} {f:Nat}:∀(fs:List FnT),(∀F∈fs,FnTOk F∧F.body.ht≤f)→∀(g:Nat) (fs0:List FnT),fs.length≤g→
  progF e f g (progOf fs0).funcs (progT fs) (progOf fs0).nodes= .ok (progOf (fs0++fs))
 |[],_,g,fs0,_=>by
  have:progF e f g (progOf fs0).funcs (progT []) (progOf fs0).nodes= .ok (progOf fs0):=by
   cases g with
   |zero=>rfl
   |succ g=>rfl
  rw[this,List.append_nil]
 |F::fs,h,g,fs0,hg=>by
  obtain⟨g,rfl⟩:∃k,g=k+1:=⟨g - 1,by simp at hg;omega⟩
  have hF:=h F (by simp)
  have h1:=funcP_good (e:=e) hF.1 hF.2 (progT fs) (progOf fs0).nodes
  have h2:=progF_good (e:=e) fs (fun X hX=>h X (by simp[hX])) g (fs0++[F]) (by simpa using hg)
  have hl:(progOf fs0).nodes.length=Tr.sizes (fs0.map (·.body)):=Tr.flats_length _ _
  have htk:progT (F::fs)=F.tk++progT fs:=rfl
  have hne:progT (F::fs)≠[]:=by rw[htk];simp[FnT.tk]
  rw[←htk] at h1
  simp only[progF,if_neg hne,h1]
  have e1:(progOf fs0).funcs++[⟨F.name,F.params,(((progOf fs0).nodes.length+F.body.size:Nat):Int) - 1⟩]=(progOf (fs0++[F])).funcs:=by
   simp only[progOf,fcs_append,Nat.zero_add]
   have:(Tr.flats 0 (fs0.map (·.body))).length=Tr.sizes (fs0.map (·.body)):=hl
   rw[this]
   simp[fcs]
  have e2:(progOf fs0).nodes++F.body.flat (progOf fs0).nodes.length=(progOf (fs0++[F])).nodes:=by
   rw[hl]
   simp[progOf,Tr.flats_append,Tr.flats]
  rw[e1,e2,h2]
  simp
theorem progP_good {e:Int} {fs:List FnT} (h:∀F∈fs,FnTOk F):progP e (progT fs)= .ok (progOf fs):=by
 have hlen:∀F∈fs,F.tk.length≤(progT fs).length:=fun F hF=>flat_mem (List.mem_map_of_mem hF)
 have h1:=progF_good (e:=e) (f:=(progT fs).length+1) fs (fun F hF=>⟨h F hF,by
  have a1:=ht_le _ F.body (Nat.le_refl _) (h F hF).wf
  have a2:=hlen F hF
  have a3:F.body.tk.length≤F.tk.length:=by simp only[FnT.tk,List.length_cons,List.length_append];omega
  omega⟩) (progT fs).length [] (by
  have:∀l:List FnT,l.length≤(progT l).length:=by
   intro l
   induction l with
   |nil=>exact Nat.le_refl _
   |cons F l ih=>
    have:progT (F::l)=F.tk++progT l:=rfl
    rw[this]
    simp only[List.length_cons,List.length_append,FnT.tk]
    omega
  exact this fs)
 exact h1
end Go.Proofs.YtdccglkagfdooaaGreatDoor
