/- Texts joined by pack.py: XSyP2 XSy1 XSyP4 XSyP5 XSyP6 XSyP7 XSyP8 XSyP9 XSyPA XSyPB XSy2 XSyPC XSyPD -/
import Derived.Test.YtglndfgmlminpaaGreatDoorSx21
import Derived.Test.YtglndfgmlminpaaGreatDoorSx20
namespace Go.Proofs.YtglndfgmlminpaaGreatDoor
theorem Tr.wfs_append (k:Int):∀(a c:List Tr) (j:Nat),Tr.wfs k j (a++c)=(Tr.wfs k j a&&Tr.wfs k (j+a.length) c)
 |[],c,j=>by simp[Tr.wfs]
 |t::a,c,j=>by
  simp only[List.cons_append,Tr.wfs,Tr.wfs_append k a c,List.length_cons,Bool.and_assoc]
  rw[show j+1+a.length=j+(a.length+1) by omega]
structure PutW (k:Int) (l:List Int) (ns ns1:List Nd) (Ts:List Tr):Prop where
 wf:Tr.wfs k 0 Ts=true
 nodes:ns1=ns++Tr.flats ns.length Ts
 at_:l=Tr.roots ns.length Ts
theorem PutW.nil (k:Int) (ns:List Nd):PutW k [] ns ns []:=⟨rfl,by simp[Tr.flats],rfl⟩
theorem PutW.snoc {k:Int} {l:List Int} {ns ns1 ns2:List Nd} {Ts:List Tr} {i:Int} {T:Tr} {K:Int→Bool} (h:PutW k l ns ns1 Ts) (hT:PutR K i ns1 ns2 T) (hf:fitsB k Ts.length T.kind=true):PutW k (l++[i]) ns ns2 (Ts++[T]):=by
 have hl:ns1.length=ns.length+Tr.sizes Ts:=by rw[h.nodes,List.length_append,Tr.flats_length]
 refine⟨?_,?_,?_⟩
 ·rw[Tr.wfs_append,h.wf,Nat.zero_add]
  simp[Tr.wfs,hf,hT.wf]
 ·rw[Tr.flats_append,hT.nodes,h.nodes,List.append_assoc]
  congr 1
  rw[←hl,←h.nodes]
  simp[Tr.flats]
 ·rw[Tr.roots_append,h.at_,hT.at_,hl]
  simp[Tr.roots]
theorem PutW.add {l:List Int} {ns ns1:List Nd} {Ts:List Tr} {a:Lab} (h:PutW a.kind l ns ns1 Ts) {K:Int→Bool} {r r1:List Tok} {i:Int} {ns2:List Nd} (hn:addN ⟨a.kind,a.text,a.val,a.keys,l⟩ r ns1= .ok (i,r1,ns2))
  (hk:K a.kind=true) (hf:fieldsB a Ts.length=true) (hc:countB a.kind Ts.length=true):PutR K i ns ns2 (.node a Ts):=by
 obtain⟨rfl,rfl,rfl⟩:=addN_ok hn
 have hl:ns1.length=ns.length+Tr.sizes Ts:=by rw[h.nodes,List.length_append,Tr.flats_length]
 refine⟨?_,hk,?_,?_⟩
 ·simp only[Tr.wf,Bool.and_eq_true]
  exact⟨⟨hf,hc⟩,h.wf⟩
 ·simp only[Tr.flat]
  rw[h.nodes,h.at_,List.append_assoc]
 ·simp only[Tr.size];omega
theorem valueP_put {e:Int} {f:Nat} {kind:Int} {text:Bs} {K:Int→Bool} (hK:K kind=true) (hk:kind≠19∧kind≠15∧kind≠16) (hf:fieldsB ⟨kind,text,0,[]⟩ 1=true) (hc:countB kind 1=true):MkP K (valueP e f kind text):=by
 intro r ns i r1 ns1 hr h
 unfold valueP at h
 split at h
 ·cases h
 ·rename_i h2
  split at h
  ·cases h
  ·obtain⟨T,hT⟩:=exprP_put f hr h2
   exact⟨_,PutW.add ((PutW.nil kind ns).snoc hT (by simpa[fitsB,hk.1,hk.2.1,hk.2.2] using hT.kind)) (a:=⟨kind,text,0,[]⟩) h hK hf hc⟩
def blkK (k:Int):Bool:=decide (k=19)
theorem mustK_name {e:Int} {r r1:List Tok} {s:Bs} (hr:TokB r) (h:mustK e 1 r= .ok (s,r1)):nameB s=true:=by
 unfold mustK at h
 split at h
 ·rename_i hk
  cases h
  cases r with
  |nil=>exact absurd rfl hk.2
  |cons t r=>
   have h1:t.kind=1:=hk.1
   have:=hr t (by simp)
   simp only[tokB,h1,Bool.and_eq_true] at this
   simpa[pText] using this.1.1.1
 ·cases h
theorem stmtP_put {e:Int} {f:Nat} {Bl:Pars} (hB:MkP blkK Bl) (hC:EatsP Bl):MkP stmtK (stmtP e f Bl):=by
 intro r ns i r1 ns1 hr h
 have if1:∀k,exprK k=true→fitsB 15 0 k=true:=fun k hk=>by simpa[fitsB] using hk
 have if2:∀(j:Nat) k,blkK k=true→fitsB 15 (j+1) k=true:=fun j k hk=>by simpa[fitsB,blkK] using hk
 have wh1:∀k,exprK k=true→fitsB 16 0 k=true:=fun k hk=>by simpa[fitsB] using hk
 have wh2:∀(j:Nat) k,blkK k=true→fitsB 16 (j+1) k=true:=fun j k hk=>by simpa[fitsB,blkK] using hk
 unfold stmtP at h
 split at h
 ·rename_i hk
  split at h
  ·cases h
  rename_i s r2 h2
  split at h
  ·cases h
  rename_i r3 h3
  have hn:=mustK_name hr.tail h2
  exact valueP_put (by decide) (by decide) (by simp only[fieldsB];simp[hn]) (by decide) ((hr.tail.eats (mustK_eats h2)).eats (mustT_eats h3)) h
 split at h
 ·rename_i hk
  split at h
  ·cases h
  rename_i c r2 ns2 h2
  split at h
  ·cases h
  rename_i b r3 ns3 h3
  have hr2:=hr.tail.eats (exprP_eats f h2)
  obtain⟨T1,hT1⟩:=exprP_put f hr.tail h2
  obtain⟨T2,hT2⟩:=hB hr2 h3
  have hp:=((PutW.nil 15 ns).snoc hT1 (if1 _ hT1.kind)).snoc hT2 (if2 0 _ hT2.kind)
  split at h
  ·split at h
   ·cases h
   rename_i b2 r4 ns4 h4
   obtain⟨T3,hT3⟩:=hB (hr2.eats (hC h3)).tail h4
   exact⟨_,(hp.snoc hT3 (if2 1 _ hT3.kind)).add (a:=⟨15,[],0,[]⟩) h (by decide) rfl rfl⟩
  ·exact⟨_,hp.add (a:=⟨15,[],0,[]⟩) h (by decide) rfl rfl⟩
 split at h
 ·rename_i hk
  split at h
  ·cases h
  rename_i c r2 ns2 h2
  split at h
  ·cases h
  rename_i b r3 ns3 h3
  have hr2:=hr.tail.eats (exprP_eats f h2)
  obtain⟨T1,hT1⟩:=exprP_put f hr.tail h2
  obtain⟨T2,hT2⟩:=hB hr2 h3
  exact⟨_,(((PutW.nil 16 ns).snoc hT1 (wh1 _ hT1.kind)).snoc hT2 (wh2 0 _ hT2.kind)).add (a:=⟨16,[],0,[]⟩) h (by decide) rfl rfl⟩
 split at h
 ·exact valueP_put (by decide) (by decide) rfl (by decide) hr.tail h
 split at h
 ·rename_i hk
  cases r with
  |nil=>cases hk
  |cons t r=>
   simp only[assigns,Bool.and_eq_true,decide_eq_true_eq] at hk
   have:=hr t (by simp)
   simp only[tokB,hk.1,Bool.and_eq_true] at this
   have hn:nameB t.text=true:=by simpa using this.1.1.1
   exact valueP_put (by decide) (by decide) (by simp only[fieldsB];simp[pText,hn]) (by decide) (hr.tail.tail) h
 ·exact valueP_put (by decide) (by decide) rfl (by decide) hr h
theorem stmtsF_put {e:Int} {S:Pars} (hS:MkP stmtK S) (hC:EatsP S):∀(g:Nat) {l:List Int} {r:List Tok} {ns0 ns:List Nd} {Ts:List Tr} {i:Int} {r1:List Tok} {ns1:List Nd},TokB r→PutW 19 l ns0 ns Ts→stmtsF e S g l r ns= .ok (i,r1,ns1)→∃T,PutR blkK i ns0 ns1 T
 |0,l,r,ns0,ns,Ts,i,r1,ns1,_,_,h=>by cases h
 |g+1,l,r,ns0,ns,Ts,i,r1,ns1,hr,hp,h=>by
  simp only[stmtsF] at h
  split at h
  ·exact⟨_,hp.add (a:=⟨19,[],0,[]⟩) h rfl rfl rfl⟩
  ·split at h
   ·cases h
   ·rename_i h2
    obtain⟨T,hT⟩:=hS hr h2
    exact stmtsF_put hS hC g (hr.eats (hC h2)) (hp.snoc hT (by simpa[fitsB] using hT.kind)) h
theorem blockP_put {e:Int}:∀f,MkP blkK (blockP e f)
 |0=>fun _ h=>by cases h
 |f+1=>fun hr h=>by
  simp only[blockP] at h
  split at h
  ·cases h
  ·rename_i h2
   exact stmtsF_put (stmtP_put (blockP_put f) (blockP_eats f)) (stmtP_eats (blockP_eats f)) _ (hr.eats (mustT_eats h2)) (.nil 19 _) h
structure FnT where
 name:Bs
 params:List Bs
 body:Tr
structure FnTOk (f:FnT):Prop where
 name:nameB f.name=true
 params:∀s∈f.params,nameB s=true
 kind:f.body.kind=19
 wf:f.body.wf=true
def fcs (b:Nat):List FnT→List Fc
 |[]=>[]
 |f::fs=>⟨f.name,f.params,((b+f.body.size:Nat):Int) - 1⟩::fcs (b+f.body.size) fs
def progOf (fs:List FnT):Pg:=⟨Tr.flats 0 (fs.map (·.body)),fcs 0 fs⟩
theorem fcs_append:∀(a c:List FnT) (b:Nat),fcs b (a++c)=fcs b a++fcs (b+Tr.sizes (a.map (·.body))) c
 |[],c,b=>by simp[fcs,Tr.sizes]
 |f::a,c,b=>by simp only[List.cons_append,fcs,fcs_append a c,List.map_cons,Tr.sizes,Nat.add_assoc]
theorem parF_names {e:Int}:∀(f:Nat) {l:List Bs} {r:List Tok} {l1:List Bs} {r1:List Tok},TokB r→(∀s∈l,nameB s=true)→parF e f l r= .ok (l1,r1)→∀s∈l1,nameB s=true
 |0,l,r,l1,r1,_,_,h=>by cases h
 |f+1,l,r,l1,r1,hr,hl,h=>by
  simp only[parF] at h
  split at h
  ·cases h
  ·rename_i s r2 h2
   have hl2:∀x∈l++[s],nameB x=true:=fun x hx=>by
    rcases List.mem_append.1 hx with h'|h'
    ·exact hl x h'
    ·rw[List.mem_singleton.1 h'];exact mustK_name hr h2
   split at h
   ·cases h;exact hl2
   ·split at h
    ·exact parF_names f (hr.eats (mustK_eats h2)).tail hl2 h
    ·cases h
theorem funcP_put {e:Int} {f:Nat} {r:List Tok} {ns:List Nd} {x:Fc} {r1:List Tok} {ns1:List Nd} (hr:TokB r) (h:funcP e f r ns= .ok (x,r1,ns1)):
  ∃F:FnT,FnTOk F∧ns1=ns++F.body.flat ns.length∧x=⟨F.name,F.params,((ns.length+F.body.size:Nat):Int) - 1⟩:=by
 unfold funcP at h
 split at h
 ·cases h
 rename_i r2 h1
 split at h
 ·cases h
 rename_i s r3 h2
 split at h
 ·cases h
 rename_i r4 h3
 split at h
 ·cases h
 rename_i ps r5 h4
 split at h
 ·cases h
 rename_i b r6 ns6 h5
 cases h
 have g1:=hr.eats (mustT_eats h1)
 have g2:=g1.eats (mustK_eats h2)
 have g3:=g2.eats (mustT_eats h3)
 have g4:=g3.eats (parP_eats h4)
 obtain⟨T,hT⟩:=blockP_put f g4 h5
 refine⟨⟨s,ps,T⟩,⟨mustK_name g1 h2,?_,by simpa[blkK] using hT.kind,hT.wf⟩,hT.nodes,by rw[hT.at_]⟩
 unfold parP at h4
 split at h4
 ·cases h4;exact fun s hs=>by cases hs
 ·exact parF_names _ g3 (fun s hs=>by cases hs) h4
theorem progF_put {e:Int} {f:Nat}:∀(g:Nat) {fs:List FnT} {r:List Tok} {p:Pg},TokB r→(∀F∈fs,FnTOk F)→progF e f g (progOf fs).funcs r (progOf fs).nodes= .ok p→∃fs',(∀F∈fs',FnTOk F)∧p=progOf fs'
 |0,fs,r,p,_,hfs,h=>by cases h;exact⟨fs,hfs,rfl⟩
 |g+1,fs,r,p,hr,hfs,h=>by
  simp only[progF] at h
  split at h
  ·cases h;exact⟨fs,hfs,rfl⟩
  ·split at h
   ·cases h
   ·rename_i x r1 ns1 h2
    obtain⟨F,h3,h4,h5⟩:=funcP_put hr h2
    have hl:(progOf fs).nodes.length=Tr.sizes (fs.map (·.body)):=Tr.flats_length _ _
    have e1:(progOf fs).funcs++[x]=(progOf (fs++[F])).funcs:=by
     simp only[progOf,fcs_append,Nat.zero_add]
     rw[h5,hl]
     simp[fcs]
    have e2:ns1=(progOf (fs++[F])).nodes:=by
     rw[h4,hl]
     simp[progOf,Tr.flats_append,Tr.flats]
    rw[e1,e2] at h
    exact progF_put g (hr.eats (funcP_eats h2)) (fun F' hF'=>by
     rcases List.mem_append.1 hF' with h'|h'
     ·exact hfs F' h'
     ·rw[List.mem_singleton.1 h'];exact h3) h
theorem progP_put {e:Int} {r:List Tok} {p:Pg} (hr:TokB r) (h:progP e r= .ok p):∃fs,(∀F∈fs,FnTOk F)∧p=progOf fs:=
 progF_put r.length (fs:=[]) hr (fun _ h=>by cases h) h
end Go.Proofs.YtglndfgmlminpaaGreatDoor
namespace Go.Proofs.YtglndfgmlminpaaGreatDoor
mutual
def Tr.ht:Tr→Nat
 | .node _ ts=>Tr.hts ts+1
def Tr.hts:List Tr→Nat
 |[]=>0
 |t::ts=>max t.ht (Tr.hts ts)
end
theorem Tr.ht_mem:∀{ts:List Tr} {t:Tr},t∈ts→t.ht≤Tr.hts ts
 |[],t,h=>by cases h
 |x::ts,t,h=>by
  simp only[Tr.hts]
  rcases List.mem_cons.1 h with rfl|h
  ·omega
  ·have:=Tr.ht_mem h;omega
def Tr.level (t:Tr):Int:=
 if t.kind=9 then binL t.lab.text
 else if t.kind=8 then(if t.lab.text=wNot then 3 else 7)
 else if t.kind=10 then 8
 else 9
def tk (k:Int) (s:Bs):Tok:=⟨k,s,0,0⟩
abbrev sy (s:Bs):Tok:=tk 5 s
abbrev wd (s:Bs):Tok:=tk 2 s
def qT (lv req:Int) (p:List Tok):List Tok:=if lv<req then sy sLP::(p++[sy sRP]) else p
def opK (s:Bs):Int:=if s=wOr∨s=wAnd then 2 else 5
def commaT:List (List Tok)→List Tok
 |[]=>[]
 |[p]=>p
 |p::q::l=>p++sy sCm::commaT (q::l)
def keysT:List Bs→List (List Tok)→List (List Tok)
 |k::ks,p::ps=>(tk 4 k::sy sCl::p)::keysT ks ps
 |_,_=>[]
def tkN (a:Lab) (lv:List Int) (ps:List (List Tok)):List Tok:=
 if a.kind=1 then [wd wNull]
 else if a.kind=2 then [wd (if a.val=1 then wTrue else wFalse)]
 else if a.kind=3 then [⟨3,[],a.val,0⟩]
 else if a.kind=4 then [tk 4 a.text]
 else if a.kind=5 then [tk 1 a.text]
 else if a.kind=6 then sy sLB::(commaT ps++[sy sRB])
 else if a.kind=7 then sy sLC::(commaT (keysT a.keys ps)++[sy sRC])
 else if a.kind=8 then
  (match lv,ps with
  |[l],[p]=>if a.text=wNot then wd wNot::qT l 3 p else sy sMi::qT l 7 p
  |_,_=>[])
 else if a.kind=9 then
  (match lv,ps with
  |[l1,l2],[p1,p2]=>qT l1 (if binL a.text=4 then 5 else binL a.text) p1++tk (opK a.text) a.text::qT l2 (binL a.text+1) p2
  |_,_=>[])
 else if a.kind=10 then
  (match lv,ps with
  |[l1,_],[p1,p2]=>qT l1 8 p1++sy sLB::(p2++[sy sRB])
  |_,_=>[])
 else if a.kind=11 then tk 1 a.text::sy sLP::(commaT ps++[sy sRP])
 else if a.kind=12 then tk 6 a.text::sy sLP::(commaT ps++[sy sRP])
 else if a.kind=13 then
  (match ps with
  |[p]=>wd wLet::tk 1 a.text::sy sEq1::(p++[sy sSc])
  |_=>[])
 else if a.kind=14 then
  (match ps with
  |[p]=>tk 1 a.text::sy sEq1::(p++[sy sSc])
  |_=>[])
 else if a.kind=15 then
  (match ps with
  |[c,b]=>wd wIf::(c++b)
  |[c,b,d]=>wd wIf::(c++b++wd wElse::d)
  |_=>[])
 else if a.kind=16 then
  (match ps with
  |[c,b]=>wd wWhile::(c++b)
  |_=>[])
 else if a.kind=17 then
  (match ps with
  |[p]=>wd wReturn::(p++[sy sSc])
  |_=>[])
 else if a.kind=18 then
  (match ps with
  |[p]=>p++[sy sSc]
  |_=>[])
 else sy sLC::(ps.flatten++[sy sRC])
mutual
def Tr.tk:Tr→List Tok
 | .node a ts=>tkN a (ts.map Tr.level) (Tr.tkl ts)
def Tr.tkl:List Tr→List (List Tok)
 |[]=>[]
 |t::ts=>t.tk::Tr.tkl ts
end
def parT:List Bs→List Tok
 |[]=>[]
 |[s]=>[tk 1 s]
 |s::q::l=>tk 1 s::sy sCm::parT (q::l)
def FnT.tk (f:FnT):List Tok:=wd wFunc::Go.Proofs.YtglndfgmlminpaaGreatDoor.tk 1 f.name::sy sLP::(parT f.params++sy sRP::f.body.tk)
end Go.Proofs.YtglndfgmlminpaaGreatDoor
namespace Go.Proofs.YtglndfgmlminpaaGreatDoor
def opLv (t:Tok):Int:=if t.kind=5∨t.kind=2 then binL t.text else 0
def Stop (L:Int) (r:List Tok):Prop:=∀t∈r.head?,opLv t<L∧isSym sLP r=false∧(L≤8→isSym sLB r=false)
theorem Stop.mono {L L':Int} {r:List Tok} (h:Stop L r) (hl:L≤L'):Stop L' r:=fun t ht=>by
 obtain⟨h1,h2,h3⟩:=h t ht
 exact⟨by omega,h2,fun h=>h3 (by omega)⟩
def Rd1 (p:Pars) (T:Tr) (w:List Tok) (r:List Tok):Prop:=∀ns,p (w++r) ns= .ok (((ns.length+T.size:Nat):Int) - 1,r,ns++T.flat ns.length)
end Go.Proofs.YtglndfgmlminpaaGreatDoor
namespace Go.Proofs.YtglndfgmlminpaaGreatDoor
def PL (e:Int) (E:Pars):Nat→Pars
 |1=>orP e E
 |2=>andP e E
 |3=>notP e E
 |4=>cmpP e E
 |5=>sumP e E
 |6=>termP e E
 |7=>unaryP e E
 |8=>postP e E
 |_=>primP e E
def First (L:Int) (t:Tok):Prop:=
 t.kind=1∨t.kind=3∨t.kind=4∨t.kind=6∨(t.kind=2∧(t.text=wNull∨t.text=wTrue∨t.text=wFalse))∨(t.kind=5∧(t.text=sLP∨t.text=sLB∨t.text=sLC))∨
 (t.kind=5∧t.text=sMi∧L≤7)∨(t.kind=2∧t.text=wNot∧L≤3)
theorem First.mono {L L':Int} {t:Tok} (h:First L t) (hl:L'≤L):First L' t:=by
 unfold First at*
 rcases h with h|h|h|h|h|h|⟨h1,h2,h3⟩|⟨h1,h2,h3⟩
 ·exact .inl h
 ·exact .inr (.inl h)
 ·exact .inr (.inr (.inl h))
 ·exact .inr (.inr (.inr (.inl h)))
 ·exact .inr (.inr (.inr (.inr (.inl h))))
 ·exact .inr (.inr (.inr (.inr (.inr (.inl h)))))
 ·exact .inr (.inr (.inr (.inr (.inr (.inr (.inl ⟨h1,h2,by omega⟩))))))
 ·exact .inr (.inr (.inr (.inr (.inr (.inr (.inr ⟨h1,h2,by omega⟩))))))
def Begins (L:Int) (w:List Tok):Prop:=∃t l,w=t::l∧First L t
theorem binL_mul {s:Bs}:opMul.contains s=true↔binL s=6:=by
 constructor
 ·intro h
  simp only[opMul,List.contains_cons,List.contains_nil,Bool.or_false,Bool.or_eq_true,beq_iff_eq] at h
  rcases h with rfl|rfl|rfl<;>decide
 ·intro h
  unfold binL at h
  split at h
  ·omega
  split at h
  ·omega
  split at h
  ·omega
  split at h
  ·omega
  split at h
  ·assumption
  ·omega
theorem binL_add {s:Bs}:opAdd.contains s=true↔binL s=5:=by
 constructor
 ·intro h
  simp only[opAdd,List.contains_cons,List.contains_nil,Bool.or_false,Bool.or_eq_true,beq_iff_eq] at h
  rcases h with rfl|rfl<;>decide
 ·intro h
  unfold binL at h
  split at h
  ·omega
  split at h
  ·omega
  split at h
  ·omega
  split at h
  ·assumption
  split at h<;>omega
theorem binL_and {s:Bs}:[wAnd].contains s=true↔binL s=2:=by
 constructor
 ·intro h
  simp only[List.contains_cons,List.contains_nil,Bool.or_false,beq_iff_eq] at h
  subst h;decide
 ·intro h
  unfold binL at h
  split at h
  ·omega
  split at h
  ·have hh:s=wAnd:=by assumption
   subst hh;rfl
  split at h
  ·omega
  split at h
  ·omega
  split at h<;>omega
theorem binL_or {s:Bs}:[wOr].contains s=true↔binL s=1:=by
 constructor
 ·intro h
  simp only[List.contains_cons,List.contains_nil,Bool.or_false,beq_iff_eq] at h
  subst h;decide
 ·intro h
  unfold binL at h
  split at h
  ·have hh:s=wOr:=by assumption
   subst hh;rfl
  split at h
  ·omega
  split at h
  ·omega
  split at h
  ·omega
  split at h<;>omega
theorem stop_no {L:Int} {r:List Tok} (h:Stop L r) {k:Int} (hk:k=5∨k=2) {ops:List Bs} (hops:∀s,ops.contains s=true→L≤binL s):¬(pKind r=k∧ops.contains (pText r)=true∧r≠[]):=by
 rintro⟨h1,h2,h3⟩
 cases r with
 |nil=>exact h3 rfl
 |cons t r=>
  have h4:=(h t rfl).1
  have h5:=hops _ h2
  simp only[pKind] at h1
  simp only[pText] at h5
  unfold opLv at h4
  rw[if_pos (by rcases hk with rfl|rfl<;>simp[h1])] at h4
  omega
section
variable {e:Int} {E:Pars}
end
end Go.Proofs.YtglndfgmlminpaaGreatDoor
namespace Go.Proofs.YtglndfgmlminpaaGreatDoor
theorem Begins.mono {L L':Int} {w:List Tok} (h:Begins L w) (hl:L'≤L):Begins L' w:=by
 obtain⟨t,l,hw,hf⟩:=h;exact⟨t,l,hw,hf.mono hl⟩
section
variable {e:Int} {E:Pars}
end
end Go.Proofs.YtglndfgmlminpaaGreatDoor
namespace Go.Proofs.YtglndfgmlminpaaGreatDoor
theorem wf_parts {a:Lab} {ts:List Tr} (h:(Tr.node a ts).wf=true):fieldsB a ts.length=true∧countB a.kind ts.length=true∧Tr.wfs a.kind 0 ts=true:=by
 simp only[Tr.wf,Bool.and_eq_true] at h
 exact⟨h.1.1,h.1.2,h.2⟩
theorem wfs_mem {k:Int}:∀{ts:List Tr} {j:Nat},Tr.wfs k j ts=true→∀(i:Nat) (T:Tr),ts[i]?=some T→T.wf=true∧fitsB k (j+i) T.kind=true
 |[],j,_,i,T,h=>by simp at h
 |t::ts,j,h,i,T,hi=>by
  simp only[Tr.wfs,Bool.and_eq_true] at h
  cases i with
  |zero=>simp at hi;subst hi;exact⟨h.1.2,h.1.1⟩
  |succ i=>
   have:=wfs_mem h.2 i T (by simpa using hi)
   rw[show j+1+i=j+(i+1) by omega] at this
   exact this
section
variable {e:Int} {E:Pars}
def IsCh (M:Nat) (kk:Int) (ops:List Bs):Prop:=(M=1∧kk=2∧ops=[wOr])∨(M=2∧kk=2∧ops=[wAnd])∨(M=5∧kk=5∧ops=opAdd)∨(M=6∧kk=5∧ops=opMul)
theorem IsCh.stop {M:Nat} {kk:Int} {ops:List Bs} (h:IsCh M kk ops) {r:List Tok} (hs:Stop (M:Int) r):¬(pKind r=kk∧ops.contains (pText r)=true∧r≠[]):=by
 rcases h with⟨rfl,rfl,rfl⟩|⟨rfl,rfl,rfl⟩|⟨rfl,rfl,rfl⟩|⟨rfl,rfl,rfl⟩
 ·exact stop_no hs (.inr rfl) fun s h=>by rw[binL_or.1 h];decide
 ·exact stop_no hs (.inr rfl) fun s h=>by rw[binL_and.1 h];decide
 ·exact stop_no hs (.inl rfl) fun s h=>by rw[binL_add.1 h];decide
 ·exact stop_no hs (.inl rfl) fun s h=>by rw[binL_mul.1 h];decide
structure Good (e:Int) (E:Pars) (T:Tr):Prop where
 ex:∃M:Nat,T.level=(M:Int)∧1≤M∧M≤9∧Begins (M:Int) T.tk∧(∀r,Stop (M:Int) r→Rd1 (PL e E M) T T.tk r)∧
  (∀kk ops,IsCh M kk ops→∀r ns,Stop ((M+1:Nat):Int) r→chainP kk ops (PL e E (M+1)) (T.tk++r) ns=chainF kk ops (PL e E (M+1)) r.length (((ns.length+T.size:Nat):Int) - 1) r (ns++T.flat ns.length))∧
  (M=8→∀r ns,Stop 9 r→postP e E (T.tk++r) ns=postF e E r.length (((ns.length+T.size:Nat):Int) - 1) r (ns++T.flat ns.length))
end
end Go.Proofs.YtglndfgmlminpaaGreatDoor
namespace Go.Proofs.YtglndfgmlminpaaGreatDoor
section
variable {e:Int}
end
end Go.Proofs.YtglndfgmlminpaaGreatDoor
namespace Go.Proofs.YtglndfgmlminpaaGreatDoor
theorem hts_le {m:Nat}:∀{ts:List Tr},(∀X∈ts,X.ht≤m)→Tr.hts ts≤m
 |[],_=>Nat.zero_le _
 |t::ts,h=>by
  simp only[Tr.hts]
  have h1:=h t (by simp)
  have h2:=hts_le fun X hX=>h X (List.mem_cons_of_mem _ hX)
  omega
end Go.Proofs.YtglndfgmlminpaaGreatDoor
namespace Go.Proofs.YtglndfgmlminpaaGreatDoor
def strip (t:Tok):Tok:={t with at_:=0}
def Sim (a b:List Tok):Prop:=a.map strip=b.map strip
theorem Sim.refl (a:List Tok):Sim a a:=rfl
theorem Sim.tail {a b:List Tok} (h:Sim a b):Sim a.tail b.tail:=by
 have:=congrArg List.tail h
 simpa[Sim] using this
theorem Sim.length {a b:List Tok} (h:Sim a b):a.length=b.length:=by
 have:=congrArg List.length h
 simpa using this
theorem Sim.nil {a b:List Tok} (h:Sim a b):a=[]↔b=[]:=by
 rw[←List.length_eq_zero_iff,←List.length_eq_zero_iff,h.length]
def SimR {α:Type} (x y:PRes α):Prop:=(∃o o',x= .error o∧y= .error o')∨∃a r r' ns,x= .ok (a,r,ns)∧y= .ok (a,r',ns)∧Sim r r'
def SimP (p q:Pars):Prop:=∀r r' ns,Sim r r'→SimR (p r ns) (q r' ns)
theorem SimR.ok {α:Type} (a:α) {r r':List Tok} (h:Sim r r') (ns:List Nd):SimR (.ok (a,r,ns)) (.ok (a,r',ns)):= .inr ⟨a,r,r',ns,rfl,rfl,h⟩
theorem SimR.add {n:Nd} {r r':List Tok} (h:Sim r r') (ns:List Nd):SimR (addN n r ns) (addN n r' ns):= .ok _ h _
section
variable {e e':Int} {E E':Pars} (hE:SimP E E')
include hE
end
section
variable {e e':Int} {E E':Pars} (hE:SimP E E')
include hE
end
end Go.Proofs.YtglndfgmlminpaaGreatDoor
namespace Go.Proofs.YtglndfgmlminpaaGreatDoor
def nodeOk (n:Nd):Bool:=fieldsB ⟨n.kind,n.text,n.val,n.keys⟩ n.kids.length&&countB n.kind n.kids.length
def backF (l:List Nd) (F:Nat→Option Nat) (kind:Int):List Int→Nat→Option Nat
 |[],at_=>some at_
 |x::xs,at_=>
  if at_<1∨x≠(at_:Int) - 1∨fitsB kind xs.length ((l[at_ - 1]?.map (·.kind)).getD 0)=false then none
  else match F (at_ - 1) with
   |some a=>backF l F kind xs a
   |none=>none
def firstF (l:List Nd):Nat→Nat→Option Nat
 |0,_=>none
 |f+1,i=>match l[i]? with
  |none=>none
  |some n=>if nodeOk n then backF l (firstF l f) n.kind n.kids.reverse i else none
theorem prefix_get {α:Type} {w l:List α} {a:Nat} (h:w<+:l.drop a) {j:Nat} (hj:j<w.length):l[a+j]?=some w[j]:=by
 obtain⟨r,hr⟩:=h
 have h1:(l.drop a)[j]?=some w[j]:=by rw[←hr,List.getElem?_append_left hj];exact List.getElem?_eq_getElem hj
 rw[List.getElem?_drop] at h1
 exact h1
theorem prefix_app {α:Type} {w v l:List α} {a:Nat}:w++v<+:l.drop a↔w<+:l.drop a∧v<+:l.drop (a+w.length):=by
 constructor
 ·rintro⟨r,hr⟩
  refine⟨⟨v++r,by rw[←hr,List.append_assoc]⟩,⟨r,?_⟩⟩
  rw[←List.drop_drop,←hr,List.append_assoc,List.drop_left]
 ·rintro⟨⟨r,hr⟩,⟨q,hq⟩⟩
  refine⟨q,?_⟩
  rw[←List.drop_drop,←hr,List.drop_left] at hq
  rw[←hr,←hq,List.append_assoc]
theorem Tr.flat_root (T:Tr) (b:Nat):∃n w,T.flat b=w++[n]∧n.kind=T.kind∧w.length+1=T.size:=by
 obtain⟨a,ts⟩:=T
 exact⟨_,_,rfl,rfl,by simp[Tr.flats_length,Tr.size]⟩
structure Seg (l:List Nd) (T:Tr) (a i:Nat):Prop where
 wf:T.wf=true
 len:a+T.size=i+1
 seg:T.flat a<+:l.drop a
theorem Seg.kind {l:List Nd} {T:Tr} {a i:Nat} (h:Seg l T a i):∃n,l[i]?=some n∧n.kind=T.kind:=by
 obtain⟨n,w,h1,h2,h3⟩:=T.flat_root a
 have:=h.len
 have h4:=h.seg
 rw[h1] at h4
 have:=prefix_get h4 (j:=w.length) (by simp)
 refine⟨n,?_,h2⟩
 rw[show i=a+w.length by omega,this]
 simp
theorem wfs_snoc {k:Int} {ts:List Tr} {T:Tr} (h:Tr.wfs k 0 ts=true) (hT:T.wf=true) (hf:fitsB k ts.length T.kind=true):Tr.wfs k 0 (ts++[T])=true:=by
 rw[Tr.wfs_append,h,Nat.zero_add]
 simp[Tr.wfs,hf,hT]
theorem backF_spec {l:List Nd} {F:Nat→Option Nat} (hF:∀i a,F i=some a→∃T,Seg l T a i) {kind:Int}:∀(xs:List Int) (at_ a:Nat),backF l F kind xs at_=some a→
  ∃Ts,Tr.wfs kind 0 Ts=true∧a+Tr.sizes Ts=at_∧Tr.flats a Ts<+:l.drop a∧xs.reverse=Tr.roots a Ts
 |[],at_,a,h=>by
  cases h
  exact⟨[],rfl,rfl,by simp[Tr.flats],rfl⟩
 |x::xs,at_,a,h=>by
  simp only[backF] at h
  split at h
  ·cases h
  rename_i hc
  simp only[not_or,Nat.not_lt,ne_eq,Classical.not_not,Bool.not_eq_false] at hc
  obtain⟨c1,c2,c3⟩:=hc
  split at h
  rotate_left
  ·cases h
  rename_i a1 h1
  obtain⟨T,hT⟩:=hF _ _ h1
  obtain⟨Ts,g1,g2,g3,g4⟩:=backF_spec hF xs a1 a h
  obtain⟨n,hn1,hn2⟩:=hT.kind
  rw[hn1] at c3
  have hlen:=hT.len
  have hl:Ts.length=xs.length:=by
   have:=congrArg List.length g4
   rw[Tr.roots_length,List.length_reverse] at this
   exact this.symm
  refine⟨Ts++[T],wfs_snoc g1 hT.wf (by rw[hl,←hn2];simpa using c3),?_,?_,?_⟩
  ·rw[Tr.sizes_append];simp only[Tr.sizes];omega
  ·rw[Tr.flats_append,prefix_app,Tr.flats_length,g2]
   refine⟨g3,?_⟩
   simpa[Tr.flats] using hT.seg
  ·rw[List.reverse_cons,g4,Tr.roots_append,g2]
   simp only[Tr.roots]
   congr 2
   omega
theorem firstF_spec {l:List Nd}:∀(f i a:Nat),firstF l f i=some a→∃T,Seg l T a i
 |0,i,a,h=>by cases h
 |f+1,i,a,h=>by
  simp only[firstF] at h
  split at h
  ·cases h
  rename_i n hn
  split at h
  rotate_left
  ·cases h
  rename_i hok
  obtain⟨Ts,g1,g2,g3,g4⟩:=backF_spec (firstF_spec f) _ _ _ h
  rw[List.reverse_reverse] at g4
  have hl:Ts.length=n.kids.length:=by rw[g4,Tr.roots_length]
  simp only[nodeOk,Bool.and_eq_true] at hok
  refine⟨.node ⟨n.kind,n.text,n.val,n.keys⟩ Ts,?_,?_,?_⟩
  ·simp only[Tr.wf,Bool.and_eq_true,hl]
   exact⟨hok,g1⟩
  ·simp only[Tr.size];omega
  ·simp only[Tr.flat]
   rw[prefix_app,Tr.flats_length,g2]
   refine⟨g3,?_⟩
   have hlt:i<l.length:=by
    rcases Nat.lt_or_ge i l.length with h'|h'
    ·exact h'
    ·rw[List.getElem?_eq_none h'] at hn;cases hn
   rw[List.drop_eq_getElem_cons hlt]
   have:l[i]=n:=by rw[List.getElem?_eq_getElem hlt] at hn;exact Option.some.inj hn
   rw[this,←g4]
   exact⟨_,rfl⟩
theorem backF_good {l:List Nd} {F:Nat→Option Nat} {kind:Int}:∀(Ts:List Tr) (a:Nat),(∀T∈Ts,∀a i,Seg l T a i→F i=some a)→Tr.wfs kind 0 Ts=true→Tr.flats a Ts<+:l.drop a→backF l F kind (Tr.roots a Ts).reverse (a+Tr.sizes Ts)=some a:=by
 intro Ts
 induction h:Ts.length generalizing Ts with
 |zero=>
  intro a _ _ _
  obtain rfl:=List.length_eq_zero_iff.1 h
  rfl
 |succ n ih=>
  intro a hF hw hs
  obtain⟨us,T,rfl⟩:∃us T,Ts=us++[T]:=by
   refine⟨Ts.dropLast,Ts.getLast (by intro e;rw[e] at h;simp at h),(List.dropLast_concat_getLast _).symm⟩
  have hlu:us.length=n:=by simpa using h
  rw[Tr.wfs_append,Bool.and_eq_true] at hw
  rw[Tr.flats_append,prefix_app,Tr.flats_length] at hs
  have hwT:fitsB kind us.length T.kind=true∧T.wf=true:=by
   have:=hw.2
   simp only[Tr.wfs,Bool.and_eq_true,Nat.zero_add] at this
   exact this.1
  have hseg:Seg l T (a+Tr.sizes us) (a+Tr.sizes us+T.size - 1):=⟨hwT.2,by have:=T.size_pos;omega,by simpa[Tr.flats] using hs.2⟩
  obtain⟨ndM,hn1,hn2⟩:=hseg.kind
  have hpos:=T.size_pos
  have hFT:=hF T (by simp) _ _ hseg
  have:=ih us hlu a (fun X hX=>hF X (by simp[hX])) hw.1 hs.1
  rw[Tr.roots_append,Tr.sizes_append,List.reverse_append]
  simp only[Tr.roots,Tr.sizes,List.reverse_cons,List.reverse_nil,List.nil_append,List.singleton_append,Nat.add_zero,backF]
  rw[if_neg]
  ·rw[show a+(Tr.sizes us+T.size) - 1=a+Tr.sizes us+T.size - 1 by omega,hFT]
   exact this
  ·simp only[not_or,Nat.not_lt,ne_eq,Classical.not_not,Bool.not_eq_false]
   refine⟨by omega,by omega,?_⟩
   rw[List.length_reverse,Tr.roots_length,show a+(Tr.sizes us+T.size) - 1=a+Tr.sizes us+T.size - 1 by omega,hn1]
   simpa[hn2] using hwT.1
theorem firstF_good {l:List Nd}:∀(f:Nat) (T:Tr) (a i:Nat),T.ht≤f→Seg l T a i→firstF l f i=some a
 |0,T,a,i,h,_=>by cases T;simp[Tr.ht] at h
 |f+1,T,a,i,h,hs=>by
  obtain⟨b,ts⟩:=T
  obtain⟨hf,hc,hws⟩:=wf_parts hs.wf
  have hlen:=hs.len
  have hseg:=hs.seg
  simp only[Tr.size] at hlen
  simp only[Tr.flat] at hseg
  rw[prefix_app,Tr.flats_length] at hseg
  have hi:l[i]?=some ⟨b.kind,b.text,b.val,b.keys,Tr.roots a ts⟩:=by
   have:=prefix_get hseg.2 (j:=0) (by simp)
   rw[show i=a+Tr.sizes ts+0 by omega,this]
   rfl
  simp only[firstF,hi]
  have hok:nodeOk ⟨b.kind,b.text,b.val,b.keys,Tr.roots a ts⟩=true:=by
   simp only[nodeOk,Bool.and_eq_true,Tr.roots_length]
   exact⟨hf,hc⟩
  rw[if_pos hok,show i=a+Tr.sizes ts by omega]
  refine backF_good ts a (fun T hT a i hs=>firstF_good f T a i ?_ hs) hws hseg.1
  have:=Tr.ht_mem hT
  simp only[Tr.ht] at h
  omega
def ordF (l:List Nd):List Fc→Nat→Option Nat
 |[],s=>some s
 |f::fs,s=>
  if nameB f.name=false∨f.params.all nameB=false then none
  else if f.body<(s:Int)∨(l.length:Int)≤f.body∨(l[f.body.toNat]?.map (·.kind))≠some 19∨firstF l (l.length+1) f.body.toNat≠some s then none
  else ordF l fs (f.body.toNat+1)
def ordB (p:Pg):Bool:=decide (ordF p.nodes p.funcs 0=some p.nodes.length)
theorem ordF_spec {l:List Nd}:∀(fs:List Fc) (s e:Nat),ordF l fs s=some e→∃Fs:List FnT,(∀F∈Fs,FnTOk F)∧fs=fcs s Fs∧e=s+Tr.sizes (Fs.map (·.body))∧Tr.flats s (Fs.map (·.body))<+:l.drop s
 |[],s,e,h=>by cases h;exact⟨[],fun _ h=>(by cases h),rfl,rfl,by simp[Tr.flats]⟩
 |f::fs,s,e,h=>by
  simp only[ordF] at h
  split at h
  ·cases h
  rename_i h1
  split at h
  ·cases h
  rename_i h2
  simp only[not_or,Bool.not_eq_false,Int.not_lt,Int.not_le,ne_eq,Classical.not_not] at h1 h2
  obtain⟨b1,b2,b3,b4⟩:=h2
  obtain⟨T,hT⟩:=firstF_spec _ _ _ b4
  obtain⟨Fs,g1,g2,g3,g4⟩:=ordF_spec fs _ _ h
  have hlen:=hT.len
  obtain⟨n,hn1,hn2⟩:=hT.kind
  rw[hn1] at b3
  have hk:T.kind=19:=by rw[←hn2];simpa using b3
  refine⟨⟨f.name,f.params,T⟩::Fs,?_,?_,?_,?_⟩
  ·intro F hF
   rcases List.mem_cons.1 hF with rfl|hF
   ·exact⟨h1.1,fun s hs=>List.all_eq_true.1 h1.2 s hs,hk,hT.wf⟩
   ·exact g1 F hF
  ·simp only[fcs]
   rw[show s+T.size=f.body.toNat+1 by omega,←g2]
   have:f=⟨f.name,f.params,((f.body.toNat+1:Nat):Int) - 1⟩:=by
    obtain⟨a,b,c⟩:=f
    simp only[Fc.mk.injEq,true_and]
    simp only at b1
    omega
   rw[←this]
  ·simp only[List.map_cons,Tr.sizes];omega
  ·simp only[List.map_cons,Tr.flats]
   rw[prefix_app,Tr.flat_length]
   refine⟨hT.seg,?_⟩
   rw[show s+T.size=f.body.toNat+1 by omega]
   exact g4
theorem ordF_good {l:List Nd}:∀(Fs:List FnT) (s:Nat),(∀F∈Fs,FnTOk F)→Tr.flats s (Fs.map (·.body))<+:l.drop s→ordF l (fcs s Fs) s=some (s+Tr.sizes (Fs.map (·.body)))
 |[],s,_,_=>rfl
 |F::Fs,s,h,hs=>by
  simp only[List.map_cons,Tr.flats] at hs
  rw[prefix_app,Tr.flat_length] at hs
  have hF:=h F (by simp)
  have hpos:=F.body.size_pos
  have hseg:Seg l F.body s (s+F.body.size - 1):=⟨hF.wf,by omega,hs.1⟩
  obtain⟨n,hn1,hn2⟩:=hseg.kind
  have hle:s+F.body.size≤l.length:=by
   have:=hs.1.length_le
   rw[Tr.flat_length,List.length_drop] at this
   omega
  have hht:F.body.ht≤l.length+1:=by
   have:∀(m:Nat) (T:Tr),T.size≤m→T.ht≤T.size:=by
    intro m
    induction m with
    |zero=>intro T hT;have:=T.size_pos;omega
    |succ m ih=>
     intro T hT
     obtain⟨a,ts⟩:=T
     simp only[Tr.size] at hT
     simp only[Tr.ht,Tr.size]
     have:Tr.hts ts≤Tr.sizes ts:=hts_le fun X hX=>by
      have h1:∀(l:List Tr),X∈l→X.size≤Tr.sizes l:=by
       intro l
       induction l with
       |nil=>intro h;cases h
       |cons y l ih=>
        intro h
        simp only[Tr.sizes]
        rcases List.mem_cons.1 h with rfl|h
        ·omega
        ·have:=ih h;omega
      have h2:=h1 ts hX
      have:=ih X (by omega)
      omega
     omega
   have:=this _ F.body (Nat.le_refl _)
   omega
  have hfirst:=firstF_good (l:=l) (l.length+1) F.body s _ hht hseg
  have hn:(((s+F.body.size:Nat):Int) - 1).toNat=s+F.body.size - 1:=by omega
  simp only[fcs,ordF,List.map_cons,Tr.sizes]
  rw[if_neg,if_neg]
  ·rw[hn,show s+F.body.size - 1+1=s+F.body.size by omega,ordF_good Fs _ (fun X hX=>h X (by simp[hX])) hs.2]
   congr 1;omega
  ·simp only[not_or,Int.not_lt,Int.not_le,ne_eq,Classical.not_not]
   refine⟨by omega,by omega,?_,?_⟩
   ·rw[hn,hn1];simp[hn2,hF.kind]
   ·rw[hn];exact hfirst
  ·simp only[not_or,Bool.not_eq_false]
   exact⟨hF.name,List.all_eq_true.2 hF.params⟩
theorem ord_iff {p:Pg}:ordB p=true↔∃Fs:List FnT,(∀F∈Fs,FnTOk F)∧p=progOf Fs:=by
 unfold ordB
 rw[decide_eq_true_eq]
 constructor
 ·intro h
  obtain⟨Fs,g1,g2,g3,g4⟩:=ordF_spec _ _ _ h
  refine⟨Fs,g1,?_⟩
  obtain⟨nodes,funcs⟩:=p
  simp only at g2 g3 g4
  simp only[List.drop_zero] at g4
  have:Tr.flats 0 (Fs.map (·.body))=nodes:=g4.eq_of_length (by rw[Tr.flats_length];omega)
  simp only[progOf,this,g2]
 ·rintro⟨Fs,h,rfl⟩
  have:=ordF_good (l:=(progOf Fs).nodes) Fs 0 h (by simp[progOf])
  simp only[progOf] at this⊢
  rw[this,Nat.zero_add,Tr.flats_length]
end Go.Proofs.YtglndfgmlminpaaGreatDoor
namespace Go.Proofs.YtglndfgmlminpaaGreatDoor
inductive Pc where
 |t (k:Tok)
 |b (s:Bs)
def txP:List Pc→Bs
 |[]=>[]
 | .t k::l=>(textT k).1++txP l
 | .b s::l=>s++txP l
abbrev sp1:Pc:= .b [32]
def tabs (n:Nat):Bs:=List.replicate n 9
abbrev nl (n:Nat):Pc:= .b (10::tabs n)
def qP (lv req:Int) (p:List Pc):List Pc:=if lv<req then .t (sy sLP)::(p++[.t (sy sRP)]) else p
def commaP:List (List Pc)→List Pc
 |[]=>[]
 |[p]=>p
 |p::q::l=>p++ .t (sy sCm)::sp1::commaP (q::l)
def keysP:List Bs→List (List Pc)→List (List Pc)
 |k::ks,p::ps=>(.t (tk 4 k):: .t (sy sCl)::sp1::p)::keysP ks ps
 |_,_=>[]
def linesP (d:Nat):List (List Pc)→List Pc
 |[]=>[]
 |p::ps=>nl d::(p++linesP d ps)
def pcN (d:Nat) (a:Lab) (lv:List Int) (ps:List (List Pc)):List Pc:=
 if a.kind=1 then [.t (wd wNull)]
 else if a.kind=2 then [.t (wd (if a.val=1 then wTrue else wFalse))]
 else if a.kind=3 then [.t ⟨3,[],a.val,0⟩]
 else if a.kind=4 then [.t (tk 4 a.text)]
 else if a.kind=5 then [.t (tk 1 a.text)]
 else if a.kind=6 then .t (sy sLB)::(commaP ps++[.t (sy sRB)])
 else if a.kind=7 then .t (sy sLC)::(commaP (keysP a.keys ps)++[.t (sy sRC)])
 else if a.kind=8 then
  (match lv,ps with
  |[l],[p]=>if a.text=wNot then .t (wd wNot)::sp1::qP l 3 p else .t (sy sMi)::qP l 7 p
  |_,_=>[])
 else if a.kind=9 then
  (match lv,ps with
  |[l1,l2],[p1,p2]=>qP l1 (if binL a.text=4 then 5 else binL a.text) p1++sp1:: .t (tk (opK a.text) a.text)::sp1::qP l2 (binL a.text+1) p2
  |_,_=>[])
 else if a.kind=10 then
  (match lv,ps with
  |[l1,_],[p1,p2]=>qP l1 8 p1++ .t (sy sLB)::(p2++[.t (sy sRB)])
  |_,_=>[])
 else if a.kind=11 then .t (tk 1 a.text):: .t (sy sLP)::(commaP ps++[.t (sy sRP)])
 else if a.kind=12 then .t (tk 6 a.text):: .t (sy sLP)::(commaP ps++[.t (sy sRP)])
 else if a.kind=13 then
  (match ps with
  |[p]=> .t (wd wLet)::sp1:: .t (tk 1 a.text)::sp1:: .t (sy sEq1)::sp1::(p++[.t (sy sSc)])
  |_=>[])
 else if a.kind=14 then
  (match ps with
  |[p]=> .t (tk 1 a.text)::sp1:: .t (sy sEq1)::sp1::(p++[.t (sy sSc)])
  |_=>[])
 else if a.kind=15 then
  (match ps with
  |[c,b]=> .t (wd wIf)::sp1::(c++sp1::b)
  |[c,b,e]=> .t (wd wIf)::sp1::(c++sp1::(b++sp1:: .t (wd wElse)::sp1::e))
  |_=>[])
 else if a.kind=16 then
  (match ps with
  |[c,b]=> .t (wd wWhile)::sp1::(c++sp1::b)
  |_=>[])
 else if a.kind=17 then
  (match ps with
  |[p]=> .t (wd wReturn)::sp1::(p++[.t (sy sSc)])
  |_=>[])
 else if a.kind=18 then
  (match ps with
  |[p]=>p++[.t (sy sSc)]
  |_=>[])
 else .t (sy sLC)::(linesP (d+1) ps++[nl d,.t (sy sRC)])
mutual
def Tr.pc (d:Nat):Tr→List Pc
 | .node a ts=>pcN d a (ts.map Tr.level) (Tr.pcl (if a.kind=19 then d+1 else d) ts)
def Tr.pcl (d:Nat):List Tr→List (List Pc)
 |[]=>[]
 |t::ts=>t.pc d::Tr.pcl d ts
end
def parPc:List Bs→List Pc
 |[]=>[]
 |[s]=>[.t (tk 1 s)]
 |s::q::l=> .t (tk 1 s):: .t (sy sCm)::sp1::parPc (q::l)
def FnT.pc (f:FnT):List Pc:= .t (wd wFunc)::sp1:: .t (Go.Proofs.YtglndfgmlminpaaGreatDoor.tk 1 f.name):: .t (sy sLP)::(parPc f.params++ .t (sy sRP)::sp1::(f.body.pc 0++[nl 0]))
def progPc (fs:List FnT):List Pc:=(fs.map FnT.pc).flatten
theorem kid_wf {X:Tr} {k:Int} {ts:List Tr} (hX:X∈ts) (hws:Tr.wfs k 0 ts=true):X.wf=true:=by
 obtain⟨i,hi⟩:=List.getElem?_of_mem hX
 exact(wfs_mem hws i X hi).1
end Go.Proofs.YtglndfgmlminpaaGreatDoor
namespace Go.Proofs.YtglndfgmlminpaaGreatDoor
end Go.Proofs.YtglndfgmlminpaaGreatDoor
namespace Go.Proofs.YtglndfgmlminpaaGreatDoor
end Go.Proofs.YtglndfgmlminpaaGreatDoor
