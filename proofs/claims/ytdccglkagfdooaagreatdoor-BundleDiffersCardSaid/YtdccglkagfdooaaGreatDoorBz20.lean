/- Texts joined by pack.py: XSyP1 XSyP2 XSy1 XSyP4 XSyP5 -/
import Derived.Test.YtdccglkagfdooaaGreatDoorBz16
namespace Go.Proofs.YtdccglkagfdooaaGreatDoor
structure Lab where
 kind:Int
 text:Bs
 val:Int
 keys:List Bs
inductive Tr where
 |node (a:Lab) (ts:List Tr)
def Tr.lab:Tr→Lab
 | .node a _=>a
abbrev Tr.kind (t:Tr):Int:=t.lab.kind
mutual
def Tr.size:Tr→Nat
 | .node _ ts=>Tr.sizes ts+1
def Tr.sizes:List Tr→Nat
 |[]=>0
 |t::ts=>t.size+Tr.sizes ts
end
def Tr.roots (b:Nat):List Tr→List Int
 |[]=>[]
 |t::ts=>(((b+t.size:Nat):Int) - 1)::Tr.roots (b+t.size) ts
mutual
def Tr.flat (b:Nat):Tr→List Nd
 | .node a ts=>Tr.flats b ts++[⟨a.kind,a.text,a.val,a.keys,Tr.roots b ts⟩]
def Tr.flats (b:Nat):List Tr→List Nd
 |[]=>[]
 |t::ts=>t.flat b++Tr.flats (b+t.size) ts
end
mutual
theorem Tr.flat_length:∀(t:Tr) (b:Nat),(t.flat b).length=t.size
 | .node a ts,b=>by simp only[Tr.flat,Tr.size,List.length_append,Tr.flats_length ts b,List.length_singleton]
theorem Tr.flats_length:∀(ts:List Tr) (b:Nat),(Tr.flats b ts).length=Tr.sizes ts
 |[],b=>rfl
 |t::ts,b=>by simp only[Tr.flats,Tr.sizes,List.length_append,Tr.flat_length t b,Tr.flats_length ts _]
end
theorem Tr.size_pos (t:Tr):0<t.size:=by cases t;simp[Tr.size]
theorem Tr.roots_length:∀(ts:List Tr) (b:Nat),(Tr.roots b ts).length=ts.length
 |[],b=>rfl
 |t::ts,b=>by simp[Tr.roots,Tr.roots_length ts]
theorem Tr.sizes_append:∀(a c:List Tr),Tr.sizes (a++c)=Tr.sizes a+Tr.sizes c
 |[],c=>by simp[Tr.sizes]
 |t::a,c=>by simp only[List.cons_append,Tr.sizes,Tr.sizes_append a c];omega
theorem Tr.flats_append:∀(a c:List Tr) (b:Nat),Tr.flats b (a++c)=Tr.flats b a++Tr.flats (b+Tr.sizes a) c
 |[],c,b=>by simp[Tr.flats,Tr.sizes]
 |t::a,c,b=>by simp only[List.cons_append,Tr.flats,Tr.flats_append a c,Tr.sizes,List.append_assoc,Nat.add_assoc]
theorem Tr.roots_append:∀(a c:List Tr) (b:Nat),Tr.roots b (a++c)=Tr.roots b a++Tr.roots (b+Tr.sizes a) c
 |[],c,b=>by simp[Tr.roots,Tr.sizes]
 |t::a,c,b=>by simp only[List.cons_append,Tr.roots,Tr.roots_append a c,Tr.sizes,Nat.add_assoc]
def nameB (s:Bs):Bool:=wholeB s&& !(kwL s)
def binL (s:Bs):Int:=
 if s=wOr then 1 else if s=wAnd then 2 else if opCmp.contains s then 4 else if opAdd.contains s then 5 else if opMul.contains s then 6 else 0
def ascB:List Bs→Bool
 |[]=>true
 |[a]=>contB a
 |a::b::l=>contB a&&Op.bytesLess a b&&ascB (b::l)
def fieldsB (a:Lab) (nk:Nat):Bool:=
 if(a.kind≠7∧a.keys≠[])∨(a.kind≠2∧a.kind≠3∧a.val≠0) then false
 else if a.kind=2 then decide (a.text=[])&&(decide (a.val=0)||decide (a.val=1))
 else if a.kind=3 then decide (a.text=[])&&decide (0≤a.val)&&decide (a.val≤1000000000000)
 else if a.kind=4 then contB a.text
 else if a.kind=5∨a.kind=11∨a.kind=13∨a.kind=14 then nameB a.text
 else if a.kind=12 then wholeB a.text
 else if a.kind=7 then decide (a.text=[])&&decide (a.keys.length=nk)&&ascB a.keys
 else if a.kind=8 then decide (a.text=sMi)||decide (a.text=wNot)
 else if a.kind=9 then decide (0<binL a.text)
 else decide (a.text=[])
def countB (k:Int) (n:Nat):Bool:=
 if 1≤k∧k≤5 then decide (n=0)
 else if k=8∨k=13∨k=14∨k=17∨k=18 then decide (n=1)
 else if k=9∨k=10∨k=16 then decide (n=2)
 else if k=15 then decide (n=2)||decide (n=3)
 else decide (k=6∨k=7∨k=11∨k=12∨k=19)
def stmtK (k:Int):Bool:=decide (13≤k)&&decide (k≤18)
def exprK (k:Int):Bool:=decide (1≤k)&&decide (k≤12)
def fitsB (k:Int) (j:Nat) (part:Int):Bool:=
 if k=19 then stmtK part else if(k=15∨k=16)∧0<j then decide (part=19) else exprK part
mutual
def Tr.wf:Tr→Bool
 | .node a ts=>fieldsB a ts.length&&countB a.kind ts.length&&Tr.wfs a.kind 0 ts
def Tr.wfs (k:Int) (j:Nat):List Tr→Bool
 |[]=>true
 |t::ts=>fitsB k j t.kind&&t.wf&&Tr.wfs k (j+1) ts
end
def tokB (t:Tok):Bool:=
 (!(decide (t.kind=1))||nameB t.text)&&(!(decide (t.kind=3))||(decide (0≤t.val)&&decide (t.val≤1000000000000)))&&(!(decide (t.kind=4))||contB t.text)&&(!(decide (t.kind=6))||wholeB t.text)
def TokB (r:List Tok):Prop:=∀t∈r,tokB t=true
theorem TokB.suf {r r1:List Tok} (h:TokB r) (hs:r1<:+r):TokB r1:=fun t ht=>h t (hs.subset ht)
theorem TokB.eats {r r1:List Tok} (h:TokB r) (hs:Eats r r1):TokB r1:=h.suf hs.suf
theorem TokB.tail {r:List Tok} (h:TokB r):TokB r.tail:=h.suf (List.tail_suffix r)
structure PutR (K:Int→Bool) (i:Int) (ns ns1:List Nd) (T:Tr):Prop where
 wf:T.wf=true
 kind:K T.kind=true
 nodes:ns1=ns++T.flat ns.length
 at_:i=((ns.length+T.size:Nat):Int) - 1
structure Puts (l:List Int) (ns ns1:List Nd) (Ts:List Tr):Prop where
 wf:∀T∈Ts,T.wf=true∧exprK T.kind=true
 nodes:ns1=ns++Tr.flats ns.length Ts
 at_:l=Tr.roots ns.length Ts
def MkP (K:Int→Bool) (p:Pars):Prop:=∀{r ns i r1 ns1},TokB r→p r ns= .ok (i,r1,ns1)→∃T,PutR K i ns ns1 T
theorem Puts.nil (ns:List Nd):Puts [] ns ns []:=⟨fun _ h=>(by cases h),by simp[Tr.flats],rfl⟩
theorem Puts.snoc {l:List Int} {ns ns1 ns2:List Nd} {Ts:List Tr} {i:Int} {T:Tr} (h:Puts l ns ns1 Ts) (k:PutR exprK i ns1 ns2 T):Puts (l++[i]) ns ns2 (Ts++[T]):=by
 have hl:ns1.length=ns.length+Tr.sizes Ts:=by rw[h.nodes,List.length_append,Tr.flats_length]
 refine⟨fun T' hT=>?_,?_,?_⟩
 ·rcases List.mem_append.1 hT with h'|h'
  ·exact h.wf T' h'
  ·rw[List.mem_singleton.1 h'];exact⟨k.wf,k.kind⟩
 ·rw[Tr.flats_append,k.nodes,h.nodes,List.append_assoc]
  congr 1
  rw[←hl,←h.nodes]
  simp[Tr.flats]
 ·rw[Tr.roots_append,h.at_,k.at_,hl]
  simp[Tr.roots]
theorem Puts.one {i:Int} {ns ns1:List Nd} {T:Tr} (k:PutR exprK i ns ns1 T):Puts [i] ns ns1 [T]:=(Puts.nil ns).snoc k
theorem Puts.add {l:List Int} {ns ns1:List Nd} {Ts:List Tr} (h:Puts l ns ns1 Ts) {K:Int→Bool} {a:Lab} {r r1:List Tok} {i:Int} {ns2:List Nd} (hn:addN ⟨a.kind,a.text,a.val,a.keys,l⟩ r ns1= .ok (i,r1,ns2))
  (hk:K a.kind=true) (hf:fieldsB a Ts.length=true) (hc:countB a.kind Ts.length=true) (hfit:∀j k,exprK k=true→fitsB a.kind j k=true):PutR K i ns ns2 (.node a Ts):=by
 obtain⟨rfl,rfl,rfl⟩:=addN_ok hn
 have hl:ns1.length=ns.length+Tr.sizes Ts:=by rw[h.nodes,List.length_append,Tr.flats_length]
 have hw:∀(Ts:List Tr) (j:Nat),(∀T∈Ts,T.wf=true∧exprK T.kind=true)→Tr.wfs a.kind j Ts=true:=by
  intro Ts
  induction Ts with
  |nil=>intro j _;rfl
  |cons T Ts ih=>
   intro j hT
   simp only[Tr.wfs,Bool.and_eq_true]
   exact⟨⟨hfit j _ (hT T (by simp)).2,(hT T (by simp)).1⟩,ih (j+1) fun T' h'=>hT T' (by simp[h'])⟩
 refine⟨?_,hk,?_,?_⟩
 ·simp only[Tr.wf,Bool.and_eq_true]
  exact⟨⟨hf,hc⟩,hw Ts 0 h.wf⟩
 ·simp only[Tr.flat]
  rw[h.nodes,h.at_,List.append_assoc]
 ·simp only[Tr.size];omega
section
variable {e:Int} {E:Pars} (hE:MkP exprK E) (hC:EatsP E)
include hE hC
theorem listF_put {fin:Bs}:∀(f:Nat) {l:List Int} {r:List Tok} {ns0 ns:List Nd} {Ts:List Tr} {l1:List Int} {r1:List Tok} {ns1:List Nd},TokB r→Puts l ns0 ns Ts→listF e fin E f l r ns= .ok (l1,r1,ns1)→∃Ts1,Puts l1 ns0 ns1 Ts1
 |0,l,r,ns0,ns,Ts,l1,r1,ns1,_,_,h=>by cases h
 |f+1,l,r,ns0,ns,Ts,l1,r1,ns1,hr,hp,h=>by
  simp only[listF] at h
  split at h
  ·cases h
  ·rename_i i r2 ns2 h2
   obtain⟨T,hT⟩:=hE hr h2
   have hp2:=hp.snoc hT
   split at h
   ·cases h;exact⟨_,hp2⟩
   ·split at h
    ·exact listF_put f (hr.eats (hC h2)).tail hp2 h
    ·cases h
theorem listP_put {fin:Bs} {r r1:List Tok} {ns ns1:List Nd} {l:List Int} (hr:TokB r) (h:listP e fin E r ns= .ok (l,r1,ns1)):∃Ts,Puts l ns ns1 Ts:=by
 unfold listP at h
 split at h
 ·cases h;exact⟨_,.nil ns⟩
 ·exact listF_put hE hC _ hr (.nil ns) h
omit hE hC in
theorem ascB_snoc:∀{ks:List Bs} {k:Bs},ascB ks=true→contB k=true→(ks=[]∨Op.bytesLess (ks.getLastD []) k=true)→ascB (ks++[k])=true
 |[],k,_,hk,_=>hk
 |[a],k,ha,hk,h=>by
  simp only[List.cons_append,List.nil_append,ascB,Bool.and_eq_true]
  rcases h with h|h
  ·cases h
  ·exact⟨⟨ha,h⟩,hk⟩
 |a::b::l,k,ha,hk,h=>by
  simp only[ascB,Bool.and_eq_true] at ha
  simp only[List.cons_append,ascB,Bool.and_eq_true]
  refine⟨ha.1,?_⟩
  have:=ascB_snoc (ks:=b::l) (k:=k) ha.2 hk (.inr (by
   rcases h with h|h
   ·cases h
   ·simpa using h))
  simpa using this
theorem keyF_put:∀(f:Nat) {ks:List Bs} {l:List Int} {r:List Tok} {ns0 ns:List Nd} {Ts:List Tr} {i:Int} {r1:List Tok} {ns1:List Nd},TokB r→Puts l ns0 ns Ts→ks.length=Ts.length→ascB ks=true→keyF e E f ks l r ns= .ok (i,r1,ns1)→∃T,PutR exprK i ns0 ns1 T
 |0,ks,l,r,ns0,ns,Ts,i,r1,ns1,_,_,_,_,h=>by cases h
 |f+1,ks,l,r,ns0,ns,Ts,i,r1,ns1,hr,hp,hl,ha,h=>by
  simp only[keyF] at h
  split at h
  rotate_left
  ·cases h
  rename_i hk
  obtain⟨hk1,hk2,hk3⟩:=hk
  split at h
  ·cases h
  rename_i r2 h2
  split at h
  ·cases h
  rename_i j r3 ns3 h3
  have hr2:=(hr.eats (.of_tail hk2)).eats (mustT_eats h2)
  obtain⟨T,hT⟩:=hE hr2 h3
  have hp2:=hp.snoc hT
  have hcont:contB (pText r)=true:=by
   cases r with
   |nil=>exact absurd rfl hk2
   |cons t r=>
    have h1:t.kind=4:=hk1
    have:=hr t (by simp)
    simp only[tokB,h1,Bool.and_eq_true] at this
    simpa[pText] using this.1.2
  have ha2:=ascB_snoc ha hcont hk3
  have hl2:(ks++[pText r]).length=(Ts++[T]).length:=by simp[hl]
  split at h
  ·refine⟨_,Puts.add hp2 (a:=⟨7,[],0,ks++[pText r]⟩) h rfl ?_ rfl fun j k hk=>?_⟩
   ·simp only[fieldsB];simp[ha2,hl]
   ·simpa[fitsB] using hk
  ·split at h
   ·exact keyF_put f (hr2.eats (hC h3)).tail hp2 hl2 ha2 h
   ·cases h
theorem keyP_put {r r1:List Tok} {ns ns1:List Nd} {i:Int} (hr:TokB r) (h:keyP e E r ns= .ok (i,r1,ns1)):∃T,PutR exprK i ns ns1 T:=by
 unfold keyP at h
 split at h
 ·refine⟨_,Puts.add (.nil ns) (a:=⟨7,[],0,[]⟩) h rfl rfl rfl fun j k hk=>?_⟩
  simpa[fitsB] using hk
 ·exact keyF_put hE hC _ hr (.nil ns) rfl rfl h
theorem primP_put:MkP exprK (primP e E):=by
 intro r ns i r1 ns1 hr h
 unfold primP at h
 cases r with
 |nil=>cases h
 |cons t r=>
  have ht:=hr t (by simp)
  simp only[tokB,Bool.and_eq_true,Bool.or_eq_true,Bool.not_eq_true',decide_eq_false_iff_not,decide_eq_true_eq] at ht
  obtain⟨⟨⟨ht1,ht3⟩,ht4⟩,ht6⟩:=ht
  have hr0:TokB r:=hr.tail
  have fit:∀k,k≠19→k≠15→k≠16→∀(j:Nat) q,exprK q=true→fitsB k j q=true:=fun k h1 h2 h3 j q hq=>by simp[fitsB,h1,h2,h3,hq]
  dsimp only at h
  split at h
  ·rename_i hk
   exact⟨_,Puts.add (.nil ns) (a:=⟨3,[],t.val,[]⟩) h rfl (by simpa[fieldsB] using ht3.resolve_left (by simp[hk])) rfl (fit 3 (by decide) (by decide) (by decide))⟩
  split at h
  ·rename_i hk
   exact⟨_,Puts.add (.nil ns) (a:=⟨4,t.text,0,[]⟩) h rfl (by simpa[fieldsB] using ht4.resolve_left (by simp[hk])) rfl (fit 4 (by decide) (by decide) (by decide))⟩
  split at h
  ·exact⟨_,Puts.add (.nil ns) (a:=⟨1,[],0,[]⟩) h rfl rfl rfl (fit 1 (by decide) (by decide) (by decide))⟩
  split at h
  ·exact⟨_,Puts.add (.nil ns) (a:=⟨2,[],1,[]⟩) h rfl rfl rfl (fit 2 (by decide) (by decide) (by decide))⟩
  split at h
  ·exact⟨_,Puts.add (.nil ns) (a:=⟨2,[],0,[]⟩) h rfl rfl rfl (fit 2 (by decide) (by decide) (by decide))⟩
  split at h
  ·rename_i hk
   have hn:nameB t.text=true:=ht1.resolve_left (by simp[hk])
   split at h
   ·rename_i hk2
    split at h
    ·cases h
    ·rename_i h2
     obtain⟨Ts,hTs⟩:=listP_put hE hC hr0.tail h2
     exact⟨_,hTs.add (a:=⟨11,t.text,0,[]⟩) h rfl (by simpa[fieldsB] using hn) rfl (fit 11 (by decide) (by decide) (by decide))⟩
   ·exact⟨_,Puts.add (.nil ns) (a:=⟨5,t.text,0,[]⟩) h rfl (by simpa[fieldsB] using hn) rfl (fit 5 (by decide) (by decide) (by decide))⟩
  split at h
  ·rename_i hk
   have hn:wholeB t.text=true:=ht6.resolve_left (by simp[hk])
   split at h
   ·cases h
   ·rename_i h2
    split at h
    ·cases h
    ·rename_i h3
     obtain⟨Ts,hTs⟩:=listP_put hE hC (hr0.eats (mustT_eats h2)) h3
     exact⟨_,hTs.add (a:=⟨12,t.text,0,[]⟩) h rfl (by simpa[fieldsB] using hn) rfl (fit 12 (by decide) (by decide) (by decide))⟩
  split at h
  ·split at h
   ·cases h
   ·rename_i h2
    obtain⟨Ts,hTs⟩:=listP_put hE hC hr0 h2
    exact⟨_,hTs.add (a:=⟨6,[],0,[]⟩) h rfl rfl rfl (fit 6 (by decide) (by decide) (by decide))⟩
  split at h
  ·exact keyP_put hE hC hr0 h
  split at h
  ·split at h
   ·cases h
   ·rename_i h2
    split at h
    ·cases h
    ·cases h
     exact hE hr0 h2
  ·cases h
theorem postF_put:∀(f:Nat) {i:Int} {r:List Tok} {ns0 ns:List Nd} {T:Tr} {j:Int} {r1:List Tok} {ns1:List Nd},TokB r→PutR exprK i ns0 ns T→postF e E f i r ns= .ok (j,r1,ns1)→∃T,PutR exprK j ns0 ns1 T
 |0,i,r,ns0,ns,T,j,r1,ns1,_,hT,h=>by cases h;exact⟨T,hT⟩
 |f+1,i,r,ns0,ns,T,j,r1,ns1,hr,hT,h=>by
  simp only[postF] at h
  split at h
  ·split at h
   ·cases h
   rename_i h2
   split at h
   ·cases h
   rename_i h3
   obtain⟨T2,hT2⟩:=hE hr.tail h2
   have hp:=(Puts.one hT).snoc hT2
   refine postF_put f ((hr.tail.eats (hC h2)).eats (mustT_eats h3)) (hp.add (K:=exprK) (a:=⟨10,[],0,[]⟩) (r:=[]) rfl rfl rfl rfl fun j k hk=>?_) h
   simpa[fitsB] using hk
  ·cases h;exact⟨T,hT⟩
theorem postP_put:MkP exprK (postP e E):=by
 intro r ns i r1 ns1 hr h
 unfold postP at h
 split at h
 ·cases h
 ·rename_i h2
  obtain⟨T,hT⟩:=primP_put hE hC hr h2
  exact postF_put hE hC _ (hr.eats (primP_eats hC h2)) hT h
theorem unaryP_put:MkP exprK (unaryP e E):=by
 intro r
 induction r with
 |nil=>intro ns i r1 ns1 hr h;exact postP_put hE hC hr h
 |cons t r ih=>
  intro ns i r1 ns1 hr h
  simp only[unaryP] at h
  split at h
  ·split at h
   ·cases h
   ·rename_i h2
    obtain⟨T,hT⟩:=ih hr.tail h2
    exact⟨_,(Puts.one hT).add (a:=⟨8,sMi,0,[]⟩) h rfl rfl rfl fun j k hk=>by simpa[fitsB] using hk⟩
  ·exact postP_put hE hC hr h
end
theorem chainF_put {k:Int} {ops:List Bs} (hops:∀s,ops.contains s=true→0<binL s) {O:Pars} (hO:MkP exprK O) (hC:EatsP O):∀(f:Nat) {i:Int} {r:List Tok} {ns0 ns:List Nd} {T:Tr} {j:Int} {r1:List Tok} {ns1:List Nd},TokB r→PutR exprK i ns0 ns T→chainF k ops O f i r ns= .ok (j,r1,ns1)→∃T,PutR exprK j ns0 ns1 T
 |0,i,r,ns0,ns,T,j,r1,ns1,_,hT,h=>by cases h;exact⟨T,hT⟩
 |f+1,i,r,ns0,ns,T,j,r1,ns1,hr,hT,h=>by
  simp only[chainF] at h
  split at h
  ·rename_i hk
   split at h
   ·cases h
   rename_i h2
   obtain⟨T2,hT2⟩:=hO hr.tail h2
   have hp:=(Puts.one hT).snoc hT2
   refine chainF_put hops hO hC f (hr.tail.eats (hC h2)) (hp.add (K:=exprK) (a:=⟨9,pText r,0,[]⟩) (r:=[]) rfl rfl (by simpa[fieldsB] using hops _ hk.2.1) rfl fun j k hk=>?_) h
   simpa[fitsB] using hk
  ·cases h;exact⟨T,hT⟩
theorem chainP_put {k:Int} {ops:List Bs} (hops:∀s,ops.contains s=true→0<binL s) {O:Pars} (hO:MkP exprK O) (hC:EatsP O):MkP exprK (chainP k ops O):=by
 intro r ns i r1 ns1 hr h
 unfold chainP at h
 split at h
 ·cases h
 ·rename_i h2
  obtain⟨T,hT⟩:=hO hr h2
  exact chainF_put hops hO hC _ (hr.eats (hC h2)) hT h
theorem opMul_bin (s:Bs) (h:opMul.contains s=true):0<binL s:=by
 simp only[opMul,List.contains_cons,List.contains_nil,Bool.or_false,Bool.or_eq_true,beq_iff_eq] at h
 rcases h with rfl|rfl|rfl<;>decide
theorem opAdd_bin (s:Bs) (h:opAdd.contains s=true):0<binL s:=by
 simp only[opAdd,List.contains_cons,List.contains_nil,Bool.or_false,Bool.or_eq_true,beq_iff_eq] at h
 rcases h with rfl|rfl<;>decide
theorem opCmp_bin (s:Bs) (h:opCmp.contains s=true):0<binL s:=by
 simp only[opCmp,List.contains_cons,List.contains_nil,Bool.or_false,Bool.or_eq_true,beq_iff_eq] at h
 rcases h with rfl|rfl|rfl|rfl|rfl|rfl<;>decide
theorem opAnd_bin (s:Bs) (h:[wAnd].contains s=true):0<binL s:=by
 simp only[List.contains_cons,List.contains_nil,Bool.or_false,beq_iff_eq] at h
 subst h;decide
theorem opOr_bin (s:Bs) (h:[wOr].contains s=true):0<binL s:=by
 simp only[List.contains_cons,List.contains_nil,Bool.or_false,beq_iff_eq] at h
 subst h;decide
section
variable {e:Int} {E:Pars} (hE:MkP exprK E) (hC:EatsP E)
include hE hC
theorem termP_put:MkP exprK (termP e E):=chainP_put opMul_bin (unaryP_put hE hC) (unaryP_eats hC)
theorem sumP_put:MkP exprK (sumP e E):=chainP_put opAdd_bin (termP_put hE hC) (termP_eats hC)
theorem cmpP_put:MkP exprK (cmpP e E):=by
 intro r ns i r1 ns1 hr h
 unfold cmpP at h
 split at h
 ·cases h
 ·rename_i i1 r2 ns2 h2
  obtain⟨T,hT⟩:=sumP_put hE hC hr h2
  split at h
  ·rename_i hk
   split at h
   ·cases h
   ·rename_i h3
    obtain⟨T2,hT2⟩:=sumP_put hE hC (hr.eats (sumP_eats hC h2)).tail h3
    exact⟨_,((Puts.one hT).snoc hT2).add (a:=⟨9,pText r2,0,[]⟩) h rfl (by have:=opCmp_bin _ hk.2.1;simp only[fieldsB];simp[this]) rfl fun j k hk=>by simpa[fitsB] using hk⟩
  ·cases h;exact⟨T,hT⟩
theorem notP_put:MkP exprK (notP e E):=by
 intro r
 induction r with
 |nil=>intro ns i r1 ns1 hr h;exact cmpP_put hE hC hr h
 |cons t r ih=>
  intro ns i r1 ns1 hr h
  simp only[notP] at h
  split at h
  ·split at h
   ·cases h
   ·rename_i h2
    obtain⟨T,hT⟩:=ih hr.tail h2
    exact⟨_,(Puts.one hT).add (a:=⟨8,wNot,0,[]⟩) h rfl rfl rfl fun j k hk=>by simpa[fitsB] using hk⟩
  ·exact cmpP_put hE hC hr h
theorem andP_put:MkP exprK (andP e E):=chainP_put opAnd_bin (notP_put hE hC) (notP_eats hC)
theorem orP_put:MkP exprK (orP e E):=chainP_put opOr_bin (andP_put hE hC) (andP_eats hC)
end
theorem exprP_put {e:Int}:∀f,MkP exprK (exprP e f)
 |0=>fun _ h=>by cases h
 |f+1=>orP_put (exprP_put f) (exprP_eats f)
end Go.Proofs.YtdccglkagfdooaaGreatDoor
namespace Go.Proofs.YtdccglkagfdooaaGreatDoor
theorem Tr.wfs_append (k:Int):∀(a c:List Tr) (j:Nat),Tr.wfs k j (a++c)=(Tr.wfs k j a&&Tr.wfs k (j+a.length) c)
 |[],c,j=>by simp[Tr.wfs]
 |t::a,c,j=>by
  simp only[List.cons_append,Tr.wfs,Tr.wfs_append k a c,List.length_cons,Bool.and_assoc]
  rw[show j+1+a.length=j+(a.length+1) by omega]
structure PutW (k:Int) (l:List Int) (ns ns1:List Nd) (Ts:List Tr):Prop where
 wf:Tr.wfs k 0 Ts=true
 nodes:ns1=ns++Tr.flats ns.length Ts
 at_:l=Tr.roots ns.length Ts
theorem PutW.nil (k:Int) (ns:List Nd):PutW k [] ns ns []:=⟨rfl,by simp[Tr.flats],rfl⟩
theorem PutW.snoc {k:Int} {l:List Int} {ns ns1 ns2:List Nd} {Ts:List Tr} {i:Int} {T:Tr} {K:Int→Bool} (h:PutW k l ns ns1 Ts) (hT:PutR K i ns1 ns2 T) (hf:fitsB k Ts.length T.kind=true):PutW k (l++[i]) ns ns2 (Ts++[T]):=by
 have hl:ns1.length=ns.length+Tr.sizes Ts:=by rw[h.nodes,List.length_append,Tr.flats_length]
 refine⟨?_,?_,?_⟩
 ·rw[Tr.wfs_append,h.wf,Nat.zero_add]
  simp[Tr.wfs,hf,hT.wf]
 ·rw[Tr.flats_append,hT.nodes,h.nodes,List.append_assoc]
  congr 1
  rw[←hl,←h.nodes]
  simp[Tr.flats]
 ·rw[Tr.roots_append,h.at_,hT.at_,hl]
  simp[Tr.roots]
theorem PutW.add {l:List Int} {ns ns1:List Nd} {Ts:List Tr} {a:Lab} (h:PutW a.kind l ns ns1 Ts) {K:Int→Bool} {r r1:List Tok} {i:Int} {ns2:List Nd} (hn:addN ⟨a.kind,a.text,a.val,a.keys,l⟩ r ns1= .ok (i,r1,ns2))
  (hk:K a.kind=true) (hf:fieldsB a Ts.length=true) (hc:countB a.kind Ts.length=true):PutR K i ns ns2 (.node a Ts):=by
 obtain⟨rfl,rfl,rfl⟩:=addN_ok hn
 have hl:ns1.length=ns.length+Tr.sizes Ts:=by rw[h.nodes,List.length_append,Tr.flats_length]
 refine⟨?_,hk,?_,?_⟩
 ·simp only[Tr.wf,Bool.and_eq_true]
  exact⟨⟨hf,hc⟩,h.wf⟩
 ·simp only[Tr.flat]
  rw[h.nodes,h.at_,List.append_assoc]
 ·simp only[Tr.size];omega
theorem valueP_put {e:Int} {f:Nat} {kind:Int} {text:Bs} {K:Int→Bool} (hK:K kind=true) (hk:kind≠19∧kind≠15∧kind≠16) (hf:fieldsB ⟨kind,text,0,[]⟩ 1=true) (hc:countB kind 1=true):MkP K (valueP e f kind text):=by
 intro r ns i r1 ns1 hr h
 unfold valueP at h
 split at h
 ·cases h
 ·rename_i h2
  split at h
  ·cases h
  ·obtain⟨T,hT⟩:=exprP_put f hr h2
   exact⟨_,PutW.add ((PutW.nil kind ns).snoc hT (by simpa[fitsB,hk.1,hk.2.1,hk.2.2] using hT.kind)) (a:=⟨kind,text,0,[]⟩) h hK hf hc⟩
def blkK (k:Int):Bool:=decide (k=19)
theorem mustK_name {e:Int} {r r1:List Tok} {s:Bs} (hr:TokB r) (h:mustK e 1 r= .ok (s,r1)):nameB s=true:=by
 unfold mustK at h
 split at h
 ·rename_i hk
  cases h
  cases r with
  |nil=>exact absurd rfl hk.2
  |cons t r=>
   have h1:t.kind=1:=hk.1
   have:=hr t (by simp)
   simp only[tokB,h1,Bool.and_eq_true] at this
   simpa[pText] using this.1.1.1
 ·cases h
theorem stmtP_put {e:Int} {f:Nat} {Bl:Pars} (hB:MkP blkK Bl) (hC:EatsP Bl):MkP stmtK (stmtP e f Bl):=by
 intro r ns i r1 ns1 hr h
 have if1:∀k,exprK k=true→fitsB 15 0 k=true:=fun k hk=>by simpa[fitsB] using hk
 have if2:∀(j:Nat) k,blkK k=true→fitsB 15 (j+1) k=true:=fun j k hk=>by simpa[fitsB,blkK] using hk
 have wh1:∀k,exprK k=true→fitsB 16 0 k=true:=fun k hk=>by simpa[fitsB] using hk
 have wh2:∀(j:Nat) k,blkK k=true→fitsB 16 (j+1) k=true:=fun j k hk=>by simpa[fitsB,blkK] using hk
 unfold stmtP at h
 split at h
 ·rename_i hk
  split at h
  ·cases h
  rename_i s r2 h2
  split at h
  ·cases h
  rename_i r3 h3
  have hn:=mustK_name hr.tail h2
  exact valueP_put (by decide) (by decide) (by simp only[fieldsB];simp[hn]) (by decide) ((hr.tail.eats (mustK_eats h2)).eats (mustT_eats h3)) h
 split at h
 ·rename_i hk
  split at h
  ·cases h
  rename_i c r2 ns2 h2
  split at h
  ·cases h
  rename_i b r3 ns3 h3
  have hr2:=hr.tail.eats (exprP_eats f h2)
  obtain⟨T1,hT1⟩:=exprP_put f hr.tail h2
  obtain⟨T2,hT2⟩:=hB hr2 h3
  have hp:=((PutW.nil 15 ns).snoc hT1 (if1 _ hT1.kind)).snoc hT2 (if2 0 _ hT2.kind)
  split at h
  ·split at h
   ·cases h
   rename_i b2 r4 ns4 h4
   obtain⟨T3,hT3⟩:=hB (hr2.eats (hC h3)).tail h4
   exact⟨_,(hp.snoc hT3 (if2 1 _ hT3.kind)).add (a:=⟨15,[],0,[]⟩) h (by decide) rfl rfl⟩
  ·exact⟨_,hp.add (a:=⟨15,[],0,[]⟩) h (by decide) rfl rfl⟩
 split at h
 ·rename_i hk
  split at h
  ·cases h
  rename_i c r2 ns2 h2
  split at h
  ·cases h
  rename_i b r3 ns3 h3
  have hr2:=hr.tail.eats (exprP_eats f h2)
  obtain⟨T1,hT1⟩:=exprP_put f hr.tail h2
  obtain⟨T2,hT2⟩:=hB hr2 h3
  exact⟨_,(((PutW.nil 16 ns).snoc hT1 (wh1 _ hT1.kind)).snoc hT2 (wh2 0 _ hT2.kind)).add (a:=⟨16,[],0,[]⟩) h (by decide) rfl rfl⟩
 split at h
 ·exact valueP_put (by decide) (by decide) rfl (by decide) hr.tail h
 split at h
 ·rename_i hk
  cases r with
  |nil=>cases hk
  |cons t r=>
   simp only[assigns,Bool.and_eq_true,decide_eq_true_eq] at hk
   have:=hr t (by simp)
   simp only[tokB,hk.1,Bool.and_eq_true] at this
   have hn:nameB t.text=true:=by simpa using this.1.1.1
   exact valueP_put (by decide) (by decide) (by simp only[fieldsB];simp[pText,hn]) (by decide) (hr.tail.tail) h
 ·exact valueP_put (by decide) (by decide) rfl (by decide) hr h
theorem stmtsF_put {e:Int} {S:Pars} (hS:MkP stmtK S) (hC:EatsP S):∀(g:Nat) {l:List Int} {r:List Tok} {ns0 ns:List Nd} {Ts:List Tr} {i:Int} {r1:List Tok} {ns1:List Nd},TokB r→PutW 19 l ns0 ns Ts→stmtsF e S g l r ns= .ok (i,r1,ns1)→∃T,PutR blkK i ns0 ns1 T
 |0,l,r,ns0,ns,Ts,i,r1,ns1,_,_,h=>by cases h
 |g+1,l,r,ns0,ns,Ts,i,r1,ns1,hr,hp,h=>by
  simp only[stmtsF] at h
  split at h
  ·exact⟨_,hp.add (a:=⟨19,[],0,[]⟩) h rfl rfl rfl⟩
  ·split at h
   ·cases h
   ·rename_i h2
    obtain⟨T,hT⟩:=hS hr h2
    exact stmtsF_put hS hC g (hr.eats (hC h2)) (hp.snoc hT (by simpa[fitsB] using hT.kind)) h
theorem blockP_put {e:Int}:∀f,MkP blkK (blockP e f)
 |0=>fun _ h=>by cases h
 |f+1=>fun hr h=>by
  simp only[blockP] at h
  split at h
  ·cases h
  ·rename_i h2
   exact stmtsF_put (stmtP_put (blockP_put f) (blockP_eats f)) (stmtP_eats (blockP_eats f)) _ (hr.eats (mustT_eats h2)) (.nil 19 _) h
structure FnT where
 name:Bs
 params:List Bs
 body:Tr
structure FnTOk (f:FnT):Prop where
 name:nameB f.name=true
 params:∀s∈f.params,nameB s=true
 kind:f.body.kind=19
 wf:f.body.wf=true
def fcs (b:Nat):List FnT→List Fc
 |[]=>[]
 |f::fs=>⟨f.name,f.params,((b+f.body.size:Nat):Int) - 1⟩::fcs (b+f.body.size) fs
def progOf (fs:List FnT):Pg:=⟨Tr.flats 0 (fs.map (·.body)),fcs 0 fs⟩
theorem fcs_append:∀(a c:List FnT) (b:Nat),fcs b (a++c)=fcs b a++fcs (b+Tr.sizes (a.map (·.body))) c
 |[],c,b=>by simp[fcs,Tr.sizes]
 |f::a,c,b=>by simp only[List.cons_append,fcs,fcs_append a c,List.map_cons,Tr.sizes,Nat.add_assoc]
theorem parF_names {e:Int}:∀(f:Nat) {l:List Bs} {r:List Tok} {l1:List Bs} {r1:List Tok},TokB r→(∀s∈l,nameB s=true)→parF e f l r= .ok (l1,r1)→∀s∈l1,nameB s=true
 |0,l,r,l1,r1,_,_,h=>by cases h
 |f+1,l,r,l1,r1,hr,hl,h=>by
  simp only[parF] at h
  split at h
  ·cases h
  ·rename_i s r2 h2
   have hl2:∀x∈l++[s],nameB x=true:=fun x hx=>by
    rcases List.mem_append.1 hx with h'|h'
    ·exact hl x h'
    ·rw[List.mem_singleton.1 h'];exact mustK_name hr h2
   split at h
   ·cases h;exact hl2
   ·split at h
    ·exact parF_names f (hr.eats (mustK_eats h2)).tail hl2 h
    ·cases h
theorem funcP_put {e:Int} {f:Nat} {r:List Tok} {ns:List Nd} {x:Fc} {r1:List Tok} {ns1:List Nd} (hr:TokB r) (h:funcP e f r ns= .ok (x,r1,ns1)):
  ∃F:FnT,FnTOk F∧ns1=ns++F.body.flat ns.length∧x=⟨F.name,F.params,((ns.length+F.body.size:Nat):Int) - 1⟩:=by
 unfold funcP at h
 split at h
 ·cases h
 rename_i r2 h1
 split at h
 ·cases h
 rename_i s r3 h2
 split at h
 ·cases h
 rename_i r4 h3
 split at h
 ·cases h
 rename_i ps r5 h4
 split at h
 ·cases h
 rename_i b r6 ns6 h5
 cases h
 have g1:=hr.eats (mustT_eats h1)
 have g2:=g1.eats (mustK_eats h2)
 have g3:=g2.eats (mustT_eats h3)
 have g4:=g3.eats (parP_eats h4)
 obtain⟨T,hT⟩:=blockP_put f g4 h5
 refine⟨⟨s,ps,T⟩,⟨mustK_name g1 h2,?_,by simpa[blkK] using hT.kind,hT.wf⟩,hT.nodes,by rw[hT.at_]⟩
 unfold parP at h4
 split at h4
 ·cases h4;exact fun s hs=>by cases hs
 ·exact parF_names _ g3 (fun s hs=>by cases hs) h4
theorem progF_put {e:Int} {f:Nat}:∀(g:Nat) {fs:List FnT} {r:List Tok} {p:Pg},TokB r→(∀F∈fs,FnTOk F)→progF e f g (progOf fs).funcs r (progOf fs).nodes= .ok p→∃fs',(∀F∈fs',FnTOk F)∧p=progOf fs'
 |0,fs,r,p,_,hfs,h=>by cases h;exact⟨fs,hfs,rfl⟩
 |g+1,fs,r,p,hr,hfs,h=>by
  simp only[progF] at h
  split at h
  ·cases h;exact⟨fs,hfs,rfl⟩
  ·split at h
   ·cases h
   ·rename_i x r1 ns1 h2
    obtain⟨F,h3,h4,h5⟩:=funcP_put hr h2
    have hl:(progOf fs).nodes.length=Tr.sizes (fs.map (·.body)):=Tr.flats_length _ _
    have e1:(progOf fs).funcs++[x]=(progOf (fs++[F])).funcs:=by
     simp only[progOf,fcs_append,Nat.zero_add]
     rw[h5,hl]
     simp[fcs]
    have e2:ns1=(progOf (fs++[F])).nodes:=by
     rw[h4,hl]
     simp[progOf,Tr.flats_append,Tr.flats]
    rw[e1,e2] at h
    exact progF_put g (hr.eats (funcP_eats h2)) (fun F' hF'=>by
     rcases List.mem_append.1 hF' with h'|h'
     ·exact hfs F' h'
     ·rw[List.mem_singleton.1 h'];exact h3) h
theorem progP_put {e:Int} {r:List Tok} {p:Pg} (hr:TokB r) (h:progP e r= .ok p):∃fs,(∀F∈fs,FnTOk F)∧p=progOf fs:=
 progF_put r.length (fs:=[]) hr (fun _ h=>by cases h) h
end Go.Proofs.YtdccglkagfdooaaGreatDoor
namespace Go.Proofs.YtdccglkagfdooaaGreatDoor
mutual
def Tr.ht:Tr→Nat
 | .node _ ts=>Tr.hts ts+1
def Tr.hts:List Tr→Nat
 |[]=>0
 |t::ts=>max t.ht (Tr.hts ts)
end
theorem Tr.ht_mem:∀{ts:List Tr} {t:Tr},t∈ts→t.ht≤Tr.hts ts
 |[],t,h=>by cases h
 |x::ts,t,h=>by
  simp only[Tr.hts]
  rcases List.mem_cons.1 h with rfl|h
  ·omega
  ·have:=Tr.ht_mem h;omega
def Tr.level (t:Tr):Int:=
 if t.kind=9 then binL t.lab.text
 else if t.kind=8 then(if t.lab.text=wNot then 3 else 7)
 else if t.kind=10 then 8
 else 9
def tk (k:Int) (s:Bs):Tok:=⟨k,s,0,0⟩
abbrev sy (s:Bs):Tok:=tk 5 s
abbrev wd (s:Bs):Tok:=tk 2 s
def qT (lv req:Int) (p:List Tok):List Tok:=if lv<req then sy sLP::(p++[sy sRP]) else p
def opK (s:Bs):Int:=if s=wOr∨s=wAnd then 2 else 5
def commaT:List (List Tok)→List Tok
 |[]=>[]
 |[p]=>p
 |p::q::l=>p++sy sCm::commaT (q::l)
def keysT:List Bs→List (List Tok)→List (List Tok)
 |k::ks,p::ps=>(tk 4 k::sy sCl::p)::keysT ks ps
 |_,_=>[]
def tkN (a:Lab) (lv:List Int) (ps:List (List Tok)):List Tok:=
 if a.kind=1 then [wd wNull]
 else if a.kind=2 then [wd (if a.val=1 then wTrue else wFalse)]
 else if a.kind=3 then [⟨3,[],a.val,0⟩]
 else if a.kind=4 then [tk 4 a.text]
 else if a.kind=5 then [tk 1 a.text]
 else if a.kind=6 then sy sLB::(commaT ps++[sy sRB])
 else if a.kind=7 then sy sLC::(commaT (keysT a.keys ps)++[sy sRC])
 else if a.kind=8 then
  (match lv,ps with
  |[l],[p]=>if a.text=wNot then wd wNot::qT l 3 p else sy sMi::qT l 7 p
  |_,_=>[])
 else if a.kind=9 then
  (match lv,ps with
  |[l1,l2],[p1,p2]=>qT l1 (if binL a.text=4 then 5 else binL a.text) p1++tk (opK a.text) a.text::qT l2 (binL a.text+1) p2
  |_,_=>[])
 else if a.kind=10 then
  (match lv,ps with
  |[l1,_],[p1,p2]=>qT l1 8 p1++sy sLB::(p2++[sy sRB])
  |_,_=>[])
 else if a.kind=11 then tk 1 a.text::sy sLP::(commaT ps++[sy sRP])
 else if a.kind=12 then tk 6 a.text::sy sLP::(commaT ps++[sy sRP])
 else if a.kind=13 then
  (match ps with
  |[p]=>wd wLet::tk 1 a.text::sy sEq1::(p++[sy sSc])
  |_=>[])
 else if a.kind=14 then
  (match ps with
  |[p]=>tk 1 a.text::sy sEq1::(p++[sy sSc])
  |_=>[])
 else if a.kind=15 then
  (match ps with
  |[c,b]=>wd wIf::(c++b)
  |[c,b,d]=>wd wIf::(c++b++wd wElse::d)
  |_=>[])
 else if a.kind=16 then
  (match ps with
  |[c,b]=>wd wWhile::(c++b)
  |_=>[])
 else if a.kind=17 then
  (match ps with
  |[p]=>wd wReturn::(p++[sy sSc])
  |_=>[])
 else if a.kind=18 then
  (match ps with
  |[p]=>p++[sy sSc]
  |_=>[])
 else sy sLC::(ps.flatten++[sy sRC])
mutual
def Tr.tk:Tr→List Tok
 | .node a ts=>tkN a (ts.map Tr.level) (Tr.tkl ts)
def Tr.tkl:List Tr→List (List Tok)
 |[]=>[]
 |t::ts=>t.tk::Tr.tkl ts
end
theorem Tr.tkl_eq:∀ts:List Tr,Tr.tkl ts=ts.map Tr.tk
 |[]=>rfl
 |t::ts=>by simp[Tr.tkl,Tr.tkl_eq ts]
def parT:List Bs→List Tok
 |[]=>[]
 |[s]=>[tk 1 s]
 |s::q::l=>tk 1 s::sy sCm::parT (q::l)
def FnT.tk (f:FnT):List Tok:=wd wFunc::Go.Proofs.YtdccglkagfdooaaGreatDoor.tk 1 f.name::sy sLP::(parT f.params++sy sRP::f.body.tk)
def progT (fs:List FnT):List Tok:=(fs.map FnT.tk).flatten
end Go.Proofs.YtdccglkagfdooaaGreatDoor
namespace Go.Proofs.YtdccglkagfdooaaGreatDoor
def opLv (t:Tok):Int:=if t.kind=5∨t.kind=2 then binL t.text else 0
def Stop (L:Int) (r:List Tok):Prop:=∀t∈r.head?,opLv t<L∧isSym sLP r=false∧(L≤8→isSym sLB r=false)
theorem Stop.mono {L L':Int} {r:List Tok} (h:Stop L r) (hl:L≤L'):Stop L' r:=fun t ht=>by
 obtain⟨h1,h2,h3⟩:=h t ht
 exact⟨by omega,h2,fun h=>h3 (by omega)⟩
def Rd1 (p:Pars) (T:Tr) (w:List Tok) (r:List Tok):Prop:=∀ns,p (w++r) ns= .ok (((ns.length+T.size:Nat):Int) - 1,r,ns++T.flat ns.length)
theorem addN_tree {ns:List Nd} {Ts:List Tr} {a:Lab} {r:List Tok} {l:List Int} (hl:l=Tr.roots ns.length Ts):addN ⟨a.kind,a.text,a.val,a.keys,l⟩ r (ns++Tr.flats ns.length Ts)= .ok (((ns.length+(Tr.node a Ts).size:Nat):Int) - 1,r,ns++(Tr.node a Ts).flat ns.length):=by
 subst hl
 unfold addN
 simp only[Tr.flat,Tr.size,List.length_append,Tr.flats_length,List.append_assoc]
 congr 2
 omega
theorem isTk_hd (k:Int) (s:Bs) (r:List Tok):isTk k s (tk k s::r)=true:=by simp[isTk,tk]
theorem chainF_stop {k:Int} {ops:List Bs} {O:Pars} {f:Nat} {i:Int} {r:List Tok} {ns:List Nd} (h:¬(pKind r=k∧ops.contains (pText r)=true∧r≠[])):chainF k ops O f i r ns= .ok (i,r,ns):=by
 cases f with
 |zero=>rfl
 |succ f=>simp only[chainF,if_neg h]
theorem postF_stop {e:Int} {E:Pars} {f:Nat} {i:Int} {r:List Tok} {ns:List Nd} (h:isSym sLB r=false):postF e E f i r ns= .ok (i,r,ns):=by
 cases f with
 |zero=>rfl
 |succ f=>simp only[postF,h,Bool.false_eq_true,if_false]
theorem chainF_fuel {k:Int} {ops:List Bs} {O:Pars} (hO:EatsP O):∀(f g:Nat) (i:Int) (r:List Tok) (ns:List Nd),r.length≤f→r.length≤g→chainF k ops O f i r ns=chainF k ops O g i r ns
 |0,g,i,r,ns,hf,hg=>by
  have:r=[]:=List.length_eq_zero_iff.1 (by omega)
  subst this
  rw[chainF_stop (by simp),chainF_stop (by simp)]
 |f+1,0,i,r,ns,hf,hg=>by
  have:r=[]:=List.length_eq_zero_iff.1 (by omega)
  subst this
  rw[chainF_stop (by simp),chainF_stop (by simp)]
 |f+1,g+1,i,r,ns,hf,hg=>by
  simp only[chainF]
  split
  ·rename_i hk
   split
   ·rfl
   ·rename_i j r1 ns1 h2
    have:=((Eats.of_tail hk.2.2).trans (hO h2)).lt
    exact chainF_fuel hO f g _ _ _ (by omega) (by omega)
  ·rfl
theorem postF_fuel {e:Int} {E:Pars} (hE:EatsP E):∀(f g:Nat) (i:Int) (r:List Tok) (ns:List Nd),r.length≤f→r.length≤g→postF e E f i r ns=postF e E g i r ns
 |0,g,i,r,ns,hf,hg=>by
  have:r=[]:=List.length_eq_zero_iff.1 (by omega)
  subst this
  rw[postF_stop rfl,postF_stop rfl]
 |f+1,0,i,r,ns,hf,hg=>by
  have:r=[]:=List.length_eq_zero_iff.1 (by omega)
  subst this
  rw[postF_stop rfl,postF_stop rfl]
 |f+1,g+1,i,r,ns,hf,hg=>by
  simp only[postF]
  split
  ·rename_i hk
   split
   ·rfl
   ·rename_i h2
    split
    ·rfl
    ·rename_i h3
     have:=(((Eats.of_tk hk).trans (hE h2)).trans (mustT_eats h3)).lt
     exact postF_fuel hE f g _ _ _ (by omega) (by omega)
  ·rfl
theorem chain_from {k:Int} {ops:List Bs} {O:Pars} (_hO:EatsP O) {T:Tr} {w r:List Tok} (h:Rd1 O T w r) (ns:List Nd):chainP k ops O (w++r) ns=chainF k ops O r.length (((ns.length+T.size:Nat):Int) - 1) r (ns++T.flat ns.length):=by
 unfold chainP
 rw[h ns]
theorem chain_step {k:Int} {ops:List Bs} {O:Pars} (hO:EatsP O) {A B:Tr} {op:Bs} {w w2 r:List Tok} {ns:List Nd} (hop:ops.contains op=true)
  (hA:∀r',chainP k ops O (w++tk k op::r') ns=chainF k ops O (tk k op::r').length (((ns.length+A.size:Nat):Int) - 1) (tk k op::r') (ns++A.flat ns.length)) (hB:Rd1 O B w2 r):
  chainP k ops O (w++tk k op::(w2++r)) ns=chainF k ops O r.length (((ns.length+(Tr.node ⟨9,op,0,[]⟩ [A,B]).size:Nat):Int) - 1) r (ns++(Tr.node ⟨9,op,0,[]⟩ [A,B]).flat ns.length):=by
 rw[hA]
 have e1:chainF k ops O (tk k op::(w2++r)).length (((ns.length+A.size:Nat):Int) - 1) (tk k op::(w2++r)) (ns++A.flat ns.length)=
   chainF k ops O (w2++r).length (((ns++A.flat ns.length++B.flat (ns++A.flat ns.length).length).length:Nat):Int) r (ns++A.flat ns.length++B.flat (ns++A.flat ns.length).length++[ndM 9 op 0 [((ns.length+A.size:Nat):Int) - 1,(((ns++A.flat ns.length).length+B.size:Nat):Int) - 1]]):=by
  simp only[List.length_cons,chainF]
  rw[if_pos ⟨rfl,hop,by simp⟩]
  have h2:=hB (ns++A.flat ns.length)
  simp only[List.tail_cons,pText]
  rw[h2]
  rfl
 rw[e1]
 have e2:ns++A.flat ns.length++B.flat (ns++A.flat ns.length).length++[ndM 9 op 0 [((ns.length+A.size:Nat):Int) - 1,(((ns++A.flat ns.length).length+B.size:Nat):Int) - 1]]=ns++(Tr.node ⟨9,op,0,[]⟩ [A,B]).flat ns.length:=by
  simp only[Tr.flat,Tr.flats,Tr.roots,List.length_append,Tr.flat_length,List.append_nil,List.append_assoc,ndM]
 have e3:(((ns++A.flat ns.length++B.flat (ns++A.flat ns.length).length).length:Nat):Int)=((ns.length+(Tr.node ⟨9,op,0,[]⟩ [A,B]).size:Nat):Int) - 1:=by
  simp only[List.length_append,Tr.flat_length,Tr.size,Tr.sizes]
  omega
 rw[e2,e3]
 exact chainF_fuel hO _ _ _ _ _ (by simp) (Nat.le_refl _)
end Go.Proofs.YtdccglkagfdooaaGreatDoor
namespace Go.Proofs.YtdccglkagfdooaaGreatDoor
def PL (e:Int) (E:Pars):Nat→Pars
 |1=>orP e E
 |2=>andP e E
 |3=>notP e E
 |4=>cmpP e E
 |5=>sumP e E
 |6=>termP e E
 |7=>unaryP e E
 |8=>postP e E
 |_=>primP e E
theorem PL_eats {e:Int} {E:Pars} (hE:EatsP E) (L:Nat):EatsP (PL e E L):=by
 unfold PL
 split
 ·exact orP_eats hE
 ·exact andP_eats hE
 ·exact notP_eats hE
 ·exact cmpP_eats hE
 ·exact sumP_eats hE
 ·exact termP_eats hE
 ·exact unaryP_eats hE
 ·exact postP_eats hE
 ·exact primP_eats hE
def First (L:Int) (t:Tok):Prop:=
 t.kind=1∨t.kind=3∨t.kind=4∨t.kind=6∨(t.kind=2∧(t.text=wNull∨t.text=wTrue∨t.text=wFalse))∨(t.kind=5∧(t.text=sLP∨t.text=sLB∨t.text=sLC))∨
 (t.kind=5∧t.text=sMi∧L≤7)∨(t.kind=2∧t.text=wNot∧L≤3)
theorem First.mono {L L':Int} {t:Tok} (h:First L t) (hl:L'≤L):First L' t:=by
 unfold First at*
 rcases h with h|h|h|h|h|h|⟨h1,h2,h3⟩|⟨h1,h2,h3⟩
 ·exact .inl h
 ·exact .inr (.inl h)
 ·exact .inr (.inr (.inl h))
 ·exact .inr (.inr (.inr (.inl h)))
 ·exact .inr (.inr (.inr (.inr (.inl h))))
 ·exact .inr (.inr (.inr (.inr (.inr (.inl h)))))
 ·exact .inr (.inr (.inr (.inr (.inr (.inr (.inl ⟨h1,h2,by omega⟩))))))
 ·exact .inr (.inr (.inr (.inr (.inr (.inr (.inr ⟨h1,h2,by omega⟩))))))
def Begins (L:Int) (w:List Tok):Prop:=∃t l,w=t::l∧First L t
theorem First.noMi {t:Tok} {l:List Tok} (h:First 8 t):isSym sMi (t::l)=false:=by
 unfold First at h
 simp only[isTk,Bool.and_eq_false_iff,decide_eq_false_iff_not,beq_eq_false_iff_ne]
 rcases h with h|h|h|h|⟨h,_⟩|⟨h,h2⟩|⟨_,_,h⟩|⟨_,_,h⟩
 ·left;omega
 ·left;omega
 ·left;omega
 ·left;omega
 ·left;omega
 ·right;rcases h2 with h2|h2|h2<;>rw[h2]<;>decide
 ·omega
 ·omega
theorem First.noNot {t:Tok} {l:List Tok} (h:First 4 t):isWrd wNot (t::l)=false:=by
 unfold First at h
 simp only[isTk,Bool.and_eq_false_iff,decide_eq_false_iff_not,beq_eq_false_iff_ne]
 rcases h with h|h|h|h|⟨h,h2⟩|⟨h,_⟩|⟨h,_⟩|⟨_,_,h⟩
 ·left;omega
 ·left;omega
 ·left;omega
 ·left;omega
 ·right;rcases h2 with h2|h2|h2<;>rw[h2]<;>decide
 ·left;omega
 ·left;omega
 ·omega
theorem First.noClose {L:Int} {t:Tok} {l:List Tok} (h:First L t) {s:Bs} (hs:s=sRP∨s=sRB∨s=sRC∨s=sSc∨s=sEq1):isSym s (t::l)=false:=by
 unfold First at h
 simp only[isTk,Bool.and_eq_false_iff,decide_eq_false_iff_not,beq_eq_false_iff_ne]
 rcases h with h|h|h|h|⟨h,_⟩|⟨h,h2⟩|⟨h,h2,_⟩|⟨h,_⟩
 ·left;omega
 ·left;omega
 ·left;omega
 ·left;omega
 ·left;omega
 ·right;rcases h2 with h2|h2|h2<;>rw[h2]<;>rcases hs with rfl|rfl|rfl|rfl|rfl<;>decide
 ·right;rw[h2];rcases hs with rfl|rfl|rfl|rfl|rfl<;>decide
 ·left;omega
theorem binL_mul {s:Bs}:opMul.contains s=true↔binL s=6:=by
 constructor
 ·intro h
  simp only[opMul,List.contains_cons,List.contains_nil,Bool.or_false,Bool.or_eq_true,beq_iff_eq] at h
  rcases h with rfl|rfl|rfl<;>decide
 ·intro h
  unfold binL at h
  split at h
  ·omega
  split at h
  ·omega
  split at h
  ·omega
  split at h
  ·omega
  split at h
  ·assumption
  ·omega
theorem binL_add {s:Bs}:opAdd.contains s=true↔binL s=5:=by
 constructor
 ·intro h
  simp only[opAdd,List.contains_cons,List.contains_nil,Bool.or_false,Bool.or_eq_true,beq_iff_eq] at h
  rcases h with rfl|rfl<;>decide
 ·intro h
  unfold binL at h
  split at h
  ·omega
  split at h
  ·omega
  split at h
  ·omega
  split at h
  ·assumption
  split at h<;>omega
theorem binL_cmp {s:Bs}:opCmp.contains s=true↔binL s=4:=by
 constructor
 ·intro h
  simp only[opCmp,List.contains_cons,List.contains_nil,Bool.or_false,Bool.or_eq_true,beq_iff_eq] at h
  rcases h with rfl|rfl|rfl|rfl|rfl|rfl<;>decide
 ·intro h
  unfold binL at h
  split at h
  ·omega
  split at h
  ·omega
  split at h
  ·assumption
  split at h
  ·omega
  split at h<;>omega
theorem binL_and {s:Bs}:[wAnd].contains s=true↔binL s=2:=by
 constructor
 ·intro h
  simp only[List.contains_cons,List.contains_nil,Bool.or_false,beq_iff_eq] at h
  subst h;decide
 ·intro h
  unfold binL at h
  split at h
  ·omega
  split at h
  ·have hh:s=wAnd:=by assumption
   subst hh;rfl
  split at h
  ·omega
  split at h
  ·omega
  split at h<;>omega
theorem binL_or {s:Bs}:[wOr].contains s=true↔binL s=1:=by
 constructor
 ·intro h
  simp only[List.contains_cons,List.contains_nil,Bool.or_false,beq_iff_eq] at h
  subst h;decide
 ·intro h
  unfold binL at h
  split at h
  ·have hh:s=wOr:=by assumption
   subst hh;rfl
  split at h
  ·omega
  split at h
  ·omega
  split at h
  ·omega
  split at h<;>omega
theorem binL_cases (s:Bs):binL s=0∨binL s=1∨binL s=2∨binL s=4∨binL s=5∨binL s=6:=by
 unfold binL
 split
 ·simp
 split
 ·simp
 split
 ·simp
 split
 ·simp
 split<;>simp
theorem opK_lv {s:Bs}:opK s=if binL s=1∨binL s=2 then 2 else 5:=by
 have h1:s=wOr↔binL s=1:=by rw[←binL_or];simp
 have h2:s=wAnd↔binL s=2:=by rw[←binL_and];simp
 unfold opK
 simp only[h1,h2]
theorem stop_no {L:Int} {r:List Tok} (h:Stop L r) {k:Int} (hk:k=5∨k=2) {ops:List Bs} (hops:∀s,ops.contains s=true→L≤binL s):¬(pKind r=k∧ops.contains (pText r)=true∧r≠[]):=by
 rintro⟨h1,h2,h3⟩
 cases r with
 |nil=>exact h3 rfl
 |cons t r=>
  have h4:=(h t rfl).1
  have h5:=hops _ h2
  simp only[pKind] at h1
  simp only[pText] at h5
  unfold opLv at h4
  rw[if_pos (by rcases hk with rfl|rfl<;>simp[h1])] at h4
  omega
section
variable {e:Int} {E:Pars}
theorem lift (hC:EatsP E) {T:Tr} {w r:List Tok}:∀(L:Nat),1≤L→L≤8→Rd1 (PL e E (L+1)) T w r→Begins ((L+1:Nat):Int) w→Stop (L:Int) r→Rd1 (PL e E L) T w r:=by
 intro L h1 h8 h hb hs ns
 obtain⟨t,l,rfl,hf⟩:=hb
 have h:=h
 match L,h1,h8 with
 |1,_,_=>rw[show PL e E 1=chainP 2 [wOr] (PL e E 2) from rfl,chain_from (PL_eats hC 2) h ns,chainF_stop (stop_no hs (.inr rfl) fun s h=>by rw[binL_or.1 h];decide)]
 |2,_,_=>rw[show PL e E 2=chainP 2 [wAnd] (PL e E 3) from rfl,chain_from (PL_eats hC 3) h ns,chainF_stop (stop_no hs (.inr rfl) fun s h=>by rw[binL_and.1 h];decide)]
 |3,_,_=>
  have:=h ns
  show notP e E (t::(l++r)) ns=_
  simp only[notP,hf.noNot,Bool.false_eq_true,if_false]
  exact this
 |4,_,_=>
  have:=h ns
  show cmpP e E (t::l++r) ns=_
  unfold cmpP
  rw[show sumP e E (t::l++r) ns=_ from this]
  simp only[if_neg (stop_no hs (.inl rfl) (ops:=opCmp) fun s h=>by rw[binL_cmp.1 h];decide)]
 |5,_,_=>rw[show PL e E 5=chainP 5 opAdd (PL e E 6) from rfl,chain_from (PL_eats hC 6) h ns,chainF_stop (stop_no hs (.inl rfl) fun s h=>by rw[binL_add.1 h];decide)]
 |6,_,_=>rw[show PL e E 6=chainP 5 opMul (PL e E 7) from rfl,chain_from (PL_eats hC 7) h ns,chainF_stop (stop_no hs (.inl rfl) fun s h=>by rw[binL_mul.1 h];decide)]
 |7,_,_=>
  have:=h ns
  show unaryP e E (t::(l++r)) ns=_
  simp only[unaryP,hf.noMi,Bool.false_eq_true,if_false]
  exact this
 |8,_,_=>
  have:=h ns
  show postP e E (t::l++r) ns=_
  unfold postP
  rw[show primP e E (t::l++r) ns=_ from this]
  have hb:isSym sLB r=false:=by
   cases r with
   |nil=>rfl
   |cons x r=>exact(hs x rfl).2.2 (by decide)
  simp only[postF_stop hb]
theorem lifts (hC:EatsP E) {T:Tr} {w r:List Tok} {L:Nat} (h1:1≤L) (hs:Stop (L:Int) r):∀(d:Nat),L+d≤9→Rd1 (PL e E (L+d)) T w r→Begins ((L+d:Nat):Int) w→Rd1 (PL e E L) T w r
 |0,_,h,_=>h
 |d+1,h9,h,hb=>by
  refine lifts hC h1 hs d (by omega) ?_ ?_
  ·exact lift hC (L+d) (by omega) (by omega) h hb (hs.mono (by omega))
  ·obtain⟨t,l,hw,hf⟩:=hb
   exact⟨t,l,hw,hf.mono (by omega)⟩
theorem lifts' (hC:EatsP E) {T:Tr} {w r:List Tok} {L M:Nat} (h1:1≤L) (hLM:L≤M) (h9:M≤9) (hs:Stop (L:Int) r) (h:Rd1 (PL e E M) T w r) (hb:Begins (M:Int) w):Rd1 (PL e E L) T w r:=by
 obtain⟨d,rfl⟩:=Nat.exists_eq_add_of_le hLM
 exact lifts hC h1 hs d h9 h hb
end
end Go.Proofs.YtdccglkagfdooaaGreatDoor
