/- Texts joined by pack.py: XSyP0 XSyP1 -/
import Derived.Test.YtglndfgmlminpaaGreatDoorSx20
namespace Go.Proofs.YtglndfgmlminpaaGreatDoor
structure Eats (r r1:List Tok):Prop where
 lt:r1.length<r.length
 suf:r1<:+r
theorem Eats.trans {a b c:List Tok} (h:Eats a b) (k:Eats b c):Eats a c:=⟨Nat.lt_trans k.lt h.lt,k.suf.trans h.suf⟩
theorem Eats.tail {a b:List Tok} (h:Eats a b):Eats a b.tail:=⟨by have:=h.lt;simp;omega,(List.tail_suffix b).trans h.suf⟩
theorem Eats.of_tail {r:List Tok} (h:r≠[]):Eats r r.tail:=by
 cases r with
 |nil=>exact absurd rfl h
 |cons t r=>exact⟨by simp,List.tail_suffix _⟩
theorem isTk_ne {k:Int} {s:Bs} {r:List Tok} (h:isTk k s r=true):r≠[]:=by rintro rfl;cases h
theorem Eats.of_tk {k:Int} {s:Bs} {r:List Tok} (h:isTk k s r=true):Eats r r.tail:= .of_tail (isTk_ne h)
def EatsP (p:Pars):Prop:=∀{r ns i r1 ns1},p r ns= .ok (i,r1,ns1)→Eats r r1
theorem mustT_eats {e k:Int} {s:Bs} {r r1:List Tok} (h:mustT e k s r= .ok r1):Eats r r1:=by
 unfold mustT at h
 split at h
 ·rename_i hk;cases h;exact .of_tk hk
 ·cases h
theorem mustK_eats {e k:Int} {r r1:List Tok} {s:Bs} (h:mustK e k r= .ok (s,r1)):Eats r r1:=by
 unfold mustK at h
 split at h
 ·rename_i hk;cases h;exact .of_tail hk.2
 ·cases h
theorem addN_ok {n:Nd} {r r1:List Tok} {ns ns1:List Nd} {i:Int} (h:addN n r ns= .ok (i,r1,ns1)):r1=r∧ns1=ns++[n]∧i=(ns.length:Int):=by
 unfold addN at h;cases h;exact⟨rfl,rfl,rfl⟩
section
variable {e:Int} {E:Pars} (hE:EatsP E)
include hE
theorem listF_eats {fin:Bs}:∀(f:Nat) {l:List Int} {r:List Tok} {ns:List Nd} {l1:List Int} {r1:List Tok} {ns1:List Nd},listF e fin E f l r ns= .ok (l1,r1,ns1)→Eats r r1
 |0,l,r,ns,l1,r1,ns1,h=>by cases h
 |f+1,l,r,ns,l1,r1,ns1,h=>by
  simp only[listF] at h
  split at h
  ·cases h
  ·rename_i i r2 ns2 h2
   have h3:=hE h2
   split at h
   ·cases h;exact h3.tail
   ·split at h
    ·rename_i hc
     exact(h3.trans (.of_tk hc)).trans (listF_eats f h)
    ·cases h
theorem listP_eats {fin:Bs} {r r1:List Tok} {ns ns1:List Nd} {l:List Int} (h:listP e fin E r ns= .ok (l,r1,ns1)):Eats r r1:=by
 unfold listP at h
 split at h
 ·rename_i hk;cases h;exact .of_tk hk
 ·exact listF_eats hE _ h
theorem keyF_eats:∀(f:Nat) {ks:List Bs} {l:List Int} {r:List Tok} {ns:List Nd} {i:Int} {r1:List Tok} {ns1:List Nd},keyF e E f ks l r ns= .ok (i,r1,ns1)→Eats r r1
 |0,ks,l,r,ns,i,r1,ns1,h=>by cases h
 |f+1,ks,l,r,ns,i,r1,ns1,h=>by
  simp only[keyF] at h
  split at h
  rotate_left
  ·cases h
  rename_i hk
  split at h
  ·cases h
  rename_i r2 h2
  split at h
  ·cases h
  rename_i j r3 ns3 h3
  have h4:=((Eats.of_tail hk.2.1).trans (mustT_eats h2)).trans (hE h3)
  split at h
  ·obtain⟨rfl,_⟩:=addN_ok h
   exact h4.tail
  ·split at h
   ·rename_i hc
    exact(h4.trans (.of_tk hc)).trans (keyF_eats f h)
   ·cases h
theorem keyP_eats {r r1:List Tok} {ns ns1:List Nd} {i:Int} (h:keyP e E r ns= .ok (i,r1,ns1)):Eats r r1:=by
 unfold keyP at h
 split at h
 ·rename_i hk
  obtain⟨rfl,_⟩:=addN_ok h
  exact .of_tk hk
 ·exact keyF_eats hE _ h
theorem primP_eats:EatsP (primP e E):=by
 intro r ns i r1 ns1 h
 unfold primP at h
 cases r with
 |nil=>cases h
 |cons t r=>
  have h0:Eats (t::r) r:= .of_tail (by simp)
  have add:∀{n:Nd} {r':List Tok} {ns':List Nd},Eats (t::r) r'→addN n r' ns'= .ok (i,r1,ns1)→Eats (t::r) r1:=fun h1 h2=>by
   obtain⟨rfl,_⟩:=addN_ok h2;exact h1
  dsimp only at h
  split at h
  ·exact add h0 h
  split at h
  ·exact add h0 h
  split at h
  ·exact add h0 h
  split at h
  ·exact add h0 h
  split at h
  ·exact add h0 h
  split at h
  ·split at h
   ·rename_i hk
    split at h
    ·cases h
    ·rename_i h2
     exact add ((h0.trans (.of_tk hk)).trans (listP_eats hE h2)) h
   ·exact add h0 h
  split at h
  ·split at h
   ·cases h
   ·rename_i h2
    split at h
    ·cases h
    ·rename_i h3
     exact add ((h0.trans (mustT_eats h2)).trans (listP_eats hE h3)) h
  split at h
  ·split at h
   ·cases h
   ·rename_i h2
    exact add (h0.trans (listP_eats hE h2)) h
  split at h
  ·exact h0.trans (keyP_eats hE h)
  split at h
  ·split at h
   ·cases h
   ·rename_i h2
    split at h
    ·cases h
    ·rename_i h3
     cases h
     exact(h0.trans (hE h2)).trans (mustT_eats h3)
  ·cases h
theorem postF_eats:∀(f:Nat) {i:Int} {r:List Tok} {ns:List Nd} {j:Int} {r1:List Tok} {ns1:List Nd},postF e E f i r ns= .ok (j,r1,ns1)→r1=r∨Eats r r1
 |0,i,r,ns,j,r1,ns1,h=>by cases h;exact .inl rfl
 |f+1,i,r,ns,j,r1,ns1,h=>by
  simp only[postF] at h
  split at h
  ·rename_i hk
   split at h
   ·cases h
   rename_i h2
   split at h
   ·cases h
   rename_i h3
   have h4:=((Eats.of_tk hk).trans (hE h2)).trans (mustT_eats h3)
   rcases postF_eats f h with rfl|h5
   ·exact .inr h4
   ·exact .inr (h4.trans h5)
  ·cases h;exact .inl rfl
theorem postP_eats:EatsP (postP e E):=by
 intro r ns i r1 ns1 h
 unfold postP at h
 split at h
 ·cases h
 ·rename_i h2
  rcases postF_eats hE _ h with rfl|h3
  ·exact primP_eats hE h2
  ·exact(primP_eats hE h2).trans h3
theorem unaryP_eats:EatsP (unaryP e E):=by
 intro r
 induction r with
 |nil=>intro ns i r1 ns1 h;exact postP_eats hE h
 |cons t r ih=>
  intro ns i r1 ns1 h
  simp only[unaryP] at h
  split at h
  ·split at h
   ·cases h
   ·rename_i h2
    obtain⟨rfl,_⟩:=addN_ok h
    exact(Eats.of_tail (r:=t::r) (by simp)).trans (ih h2)
  ·exact postP_eats hE h
end
theorem chainF_eats {k:Int} {ops:List Bs} {O:Pars} (hO:EatsP O):∀(f:Nat) {i:Int} {r:List Tok} {ns:List Nd} {j:Int} {r1:List Tok} {ns1:List Nd},chainF k ops O f i r ns= .ok (j,r1,ns1)→r1=r∨Eats r r1
 |0,i,r,ns,j,r1,ns1,h=>by cases h;exact .inl rfl
 |f+1,i,r,ns,j,r1,ns1,h=>by
  simp only[chainF] at h
  split at h
  ·rename_i hk
   split at h
   ·cases h
   rename_i h2
   have h4:=(Eats.of_tail hk.2.2).trans (hO h2)
   rcases chainF_eats hO f h with rfl|h5
   ·exact .inr h4
   ·exact .inr (h4.trans h5)
  ·cases h;exact .inl rfl
theorem chainP_eats {k:Int} {ops:List Bs} {O:Pars} (hO:EatsP O):EatsP (chainP k ops O):=by
 intro r ns i r1 ns1 h
 unfold chainP at h
 split at h
 ·cases h
 ·rename_i h2
  rcases chainF_eats hO _ h with rfl|h3
  ·exact hO h2
  ·exact(hO h2).trans h3
section
variable {e:Int} {E:Pars} (hE:EatsP E)
include hE
theorem termP_eats:EatsP (termP e E):=chainP_eats (unaryP_eats hE)
theorem sumP_eats:EatsP (sumP e E):=chainP_eats (termP_eats hE)
theorem cmpP_eats:EatsP (cmpP e E):=by
 intro r ns i r1 ns1 h
 unfold cmpP at h
 split at h
 ·cases h
 ·rename_i h2
  have h3:=sumP_eats hE h2
  split at h
  ·rename_i hk
   split at h
   ·cases h
   ·rename_i h4
    obtain⟨rfl,_⟩:=addN_ok h
    exact(h3.trans (.of_tail hk.2.2)).trans (sumP_eats hE h4)
  ·cases h;exact h3
theorem notP_eats:EatsP (notP e E):=by
 intro r
 induction r with
 |nil=>intro ns i r1 ns1 h;exact cmpP_eats hE h
 |cons t r ih=>
  intro ns i r1 ns1 h
  simp only[notP] at h
  split at h
  ·split at h
   ·cases h
   ·rename_i h2
    obtain⟨rfl,_⟩:=addN_ok h
    exact(Eats.of_tail (r:=t::r) (by simp)).trans (ih h2)
  ·exact cmpP_eats hE h
theorem andP_eats:EatsP (andP e E):=chainP_eats (notP_eats hE)
theorem orP_eats:EatsP (orP e E):=chainP_eats (andP_eats hE)
end
theorem exprP_eats {e:Int}:∀f,EatsP (exprP e f)
 |0=>fun h=>by cases h
 |f+1=>orP_eats (exprP_eats f)
theorem valueP_eats {e:Int} {f:Nat} {kind:Int} {text:Bs}:EatsP (valueP e f kind text):=by
 intro r ns i r1 ns1 h
 unfold valueP at h
 split at h
 ·cases h
 ·rename_i h2
  split at h
  ·cases h
  ·rename_i h3
   obtain⟨rfl,_⟩:=addN_ok h
   exact(exprP_eats f h2).trans (mustT_eats h3)
theorem stmtP_eats {e:Int} {f:Nat} {Bl:Pars} (hB:EatsP Bl):EatsP (stmtP e f Bl):=by
 intro r ns i r1 ns1 h
 unfold stmtP at h
 split at h
 ·rename_i hk
  split at h
  ·cases h
  rename_i h2
  split at h
  ·cases h
  rename_i h3
  exact(((Eats.of_tk hk).trans (mustK_eats h2)).trans (mustT_eats h3)).trans (valueP_eats h)
 split at h
 ·rename_i hk
  split at h
  ·cases h
  rename_i h2
  split at h
  ·cases h
  rename_i h3
  have h4:=((Eats.of_tk hk).trans (exprP_eats f h2)).trans (hB h3)
  split at h
  ·rename_i hk2
   split at h
   ·cases h
   rename_i h5
   obtain⟨rfl,_⟩:=addN_ok h
   exact(h4.trans (.of_tk hk2)).trans (hB h5)
  ·obtain⟨rfl,_⟩:=addN_ok h
   exact h4
 split at h
 ·rename_i hk
  split at h
  ·cases h
  rename_i h2
  split at h
  ·cases h
  rename_i h3
  obtain⟨rfl,_⟩:=addN_ok h
  exact((Eats.of_tk hk).trans (exprP_eats f h2)).trans (hB h3)
 split at h
 ·rename_i hk
  exact(Eats.of_tk hk).trans (valueP_eats h)
 split at h
 ·rename_i hk
  cases r with
  |nil=>cases hk
  |cons t r=>
   simp only[assigns,Bool.and_eq_true] at hk
   exact((Eats.of_tail (r:=t::r) (by simp)).trans (.of_tk hk.2)).trans (valueP_eats h)
 ·exact valueP_eats h
theorem stmtsF_eats {e:Int} {S:Pars} (hS:EatsP S):∀(g:Nat) {l:List Int} {r:List Tok} {ns:List Nd} {i:Int} {r1:List Tok} {ns1:List Nd},stmtsF e S g l r ns= .ok (i,r1,ns1)→Eats r r1
 |0,l,r,ns,i,r1,ns1,h=>by cases h
 |g+1,l,r,ns,i,r1,ns1,h=>by
  simp only[stmtsF] at h
  split at h
  ·rename_i hk
   obtain⟨rfl,_⟩:=addN_ok h
   exact .of_tk hk
  ·split at h
   ·cases h
   ·rename_i h2
    exact(hS h2).trans (stmtsF_eats hS g h)
theorem blockP_eats {e:Int}:∀f,EatsP (blockP e f)
 |0=>fun h=>by cases h
 |f+1=>fun h=>by
  simp only[blockP] at h
  split at h
  ·cases h
  ·rename_i h2
   exact(mustT_eats h2).trans (stmtsF_eats (stmtP_eats (blockP_eats f)) _ h)
theorem parF_eats {e:Int}:∀(f:Nat) {l:List Bs} {r:List Tok} {l1:List Bs} {r1:List Tok},parF e f l r= .ok (l1,r1)→Eats r r1
 |0,l,r,l1,r1,h=>by cases h
 |f+1,l,r,l1,r1,h=>by
  simp only[parF] at h
  split at h
  ·cases h
  ·rename_i h2
   split at h
   ·rename_i hk
    cases h
    exact(mustK_eats h2).trans (.of_tk hk)
   ·split at h
    ·rename_i hk
     exact((mustK_eats h2).trans (.of_tk hk)).trans (parF_eats f h)
    ·cases h
theorem parP_eats {e:Int} {r:List Tok} {l1:List Bs} {r1:List Tok} (h:parP e r= .ok (l1,r1)):Eats r r1:=by
 unfold parP at h
 split at h
 ·rename_i hk;cases h;exact .of_tk hk
 ·exact parF_eats _ h
theorem funcP_eats {e:Int} {f:Nat} {r:List Tok} {ns:List Nd} {x:Fc} {r1:List Tok} {ns1:List Nd} (h:funcP e f r ns= .ok (x,r1,ns1)):Eats r r1:=by
 unfold funcP at h
 split at h
 ·cases h
 rename_i h1
 split at h
 ·cases h
 rename_i h2
 split at h
 ·cases h
 rename_i h3
 split at h
 ·cases h
 rename_i h4
 split at h
 ·cases h
 rename_i h5
 cases h
 exact((((mustT_eats h1).trans (mustK_eats h2)).trans (mustT_eats h3)).trans (parP_eats h4)).trans (blockP_eats f h5)
end Go.Proofs.YtglndfgmlminpaaGreatDoor
namespace Go.Proofs.YtglndfgmlminpaaGreatDoor
structure Lab where
 kind:Int
 text:Bs
 val:Int
 keys:List Bs
inductive Tr where
 |node (a:Lab) (ts:List Tr)
def Tr.lab:Tr→Lab
 | .node a _=>a
abbrev Tr.kind (t:Tr):Int:=t.lab.kind
mutual
def Tr.size:Tr→Nat
 | .node _ ts=>Tr.sizes ts+1
def Tr.sizes:List Tr→Nat
 |[]=>0
 |t::ts=>t.size+Tr.sizes ts
end
def Tr.roots (b:Nat):List Tr→List Int
 |[]=>[]
 |t::ts=>(((b+t.size:Nat):Int) - 1)::Tr.roots (b+t.size) ts
mutual
def Tr.flat (b:Nat):Tr→List Nd
 | .node a ts=>Tr.flats b ts++[⟨a.kind,a.text,a.val,a.keys,Tr.roots b ts⟩]
def Tr.flats (b:Nat):List Tr→List Nd
 |[]=>[]
 |t::ts=>t.flat b++Tr.flats (b+t.size) ts
end
mutual
theorem Tr.flat_length:∀(t:Tr) (b:Nat),(t.flat b).length=t.size
 | .node a ts,b=>by simp only[Tr.flat,Tr.size,List.length_append,Tr.flats_length ts b,List.length_singleton]
theorem Tr.flats_length:∀(ts:List Tr) (b:Nat),(Tr.flats b ts).length=Tr.sizes ts
 |[],b=>rfl
 |t::ts,b=>by simp only[Tr.flats,Tr.sizes,List.length_append,Tr.flat_length t b,Tr.flats_length ts _]
end
theorem Tr.size_pos (t:Tr):0<t.size:=by cases t;simp[Tr.size]
theorem Tr.roots_length:∀(ts:List Tr) (b:Nat),(Tr.roots b ts).length=ts.length
 |[],b=>rfl
 |t::ts,b=>by simp[Tr.roots,Tr.roots_length ts]
theorem Tr.sizes_append:∀(a c:List Tr),Tr.sizes (a++c)=Tr.sizes a+Tr.sizes c
 |[],c=>by simp[Tr.sizes]
 |t::a,c=>by simp only[List.cons_append,Tr.sizes,Tr.sizes_append a c];omega
theorem Tr.flats_append:∀(a c:List Tr) (b:Nat),Tr.flats b (a++c)=Tr.flats b a++Tr.flats (b+Tr.sizes a) c
 |[],c,b=>by simp[Tr.flats,Tr.sizes]
 |t::a,c,b=>by simp only[List.cons_append,Tr.flats,Tr.flats_append a c,Tr.sizes,List.append_assoc,Nat.add_assoc]
theorem Tr.roots_append:∀(a c:List Tr) (b:Nat),Tr.roots b (a++c)=Tr.roots b a++Tr.roots (b+Tr.sizes a) c
 |[],c,b=>by simp[Tr.roots,Tr.sizes]
 |t::a,c,b=>by simp only[List.cons_append,Tr.roots,Tr.roots_append a c,Tr.sizes,Nat.add_assoc]
def nameB (s:Bs):Bool:=wholeB s&& !(kwL s)
def binL (s:Bs):Int:=
 if s=wOr then 1 else if s=wAnd then 2 else if opCmp.contains s then 4 else if opAdd.contains s then 5 else if opMul.contains s then 6 else 0
def ascB:List Bs→Bool
 |[]=>true
 |[a]=>contB a
 |a::b::l=>contB a&&Op.bytesLess a b&&ascB (b::l)
def fieldsB (a:Lab) (nk:Nat):Bool:=
 if(a.kind≠7∧a.keys≠[])∨(a.kind≠2∧a.kind≠3∧a.val≠0) then false
 else if a.kind=2 then decide (a.text=[])&&(decide (a.val=0)||decide (a.val=1))
 else if a.kind=3 then decide (a.text=[])&&decide (0≤a.val)&&decide (a.val≤1000000000000)
 else if a.kind=4 then contB a.text
 else if a.kind=5∨a.kind=11∨a.kind=13∨a.kind=14 then nameB a.text
 else if a.kind=12 then wholeB a.text
 else if a.kind=7 then decide (a.text=[])&&decide (a.keys.length=nk)&&ascB a.keys
 else if a.kind=8 then decide (a.text=sMi)||decide (a.text=wNot)
 else if a.kind=9 then decide (0<binL a.text)
 else decide (a.text=[])
def countB (k:Int) (n:Nat):Bool:=
 if 1≤k∧k≤5 then decide (n=0)
 else if k=8∨k=13∨k=14∨k=17∨k=18 then decide (n=1)
 else if k=9∨k=10∨k=16 then decide (n=2)
 else if k=15 then decide (n=2)||decide (n=3)
 else decide (k=6∨k=7∨k=11∨k=12∨k=19)
def stmtK (k:Int):Bool:=decide (13≤k)&&decide (k≤18)
def exprK (k:Int):Bool:=decide (1≤k)&&decide (k≤12)
def fitsB (k:Int) (j:Nat) (part:Int):Bool:=
 if k=19 then stmtK part else if(k=15∨k=16)∧0<j then decide (part=19) else exprK part
mutual
def Tr.wf:Tr→Bool
 | .node a ts=>fieldsB a ts.length&&countB a.kind ts.length&&Tr.wfs a.kind 0 ts
def Tr.wfs (k:Int) (j:Nat):List Tr→Bool
 |[]=>true
 |t::ts=>fitsB k j t.kind&&t.wf&&Tr.wfs k (j+1) ts
end
def tokB (t:Tok):Bool:=
 (!(decide (t.kind=1))||nameB t.text)&&(!(decide (t.kind=3))||(decide (0≤t.val)&&decide (t.val≤1000000000000)))&&(!(decide (t.kind=4))||contB t.text)&&(!(decide (t.kind=6))||wholeB t.text)
def TokB (r:List Tok):Prop:=∀t∈r,tokB t=true
theorem TokB.suf {r r1:List Tok} (h:TokB r) (hs:r1<:+r):TokB r1:=fun t ht=>h t (hs.subset ht)
theorem TokB.eats {r r1:List Tok} (h:TokB r) (hs:Eats r r1):TokB r1:=h.suf hs.suf
theorem TokB.tail {r:List Tok} (h:TokB r):TokB r.tail:=h.suf (List.tail_suffix r)
structure PutR (K:Int→Bool) (i:Int) (ns ns1:List Nd) (T:Tr):Prop where
 wf:T.wf=true
 kind:K T.kind=true
 nodes:ns1=ns++T.flat ns.length
 at_:i=((ns.length+T.size:Nat):Int) - 1
structure Puts (l:List Int) (ns ns1:List Nd) (Ts:List Tr):Prop where
 wf:∀T∈Ts,T.wf=true∧exprK T.kind=true
 nodes:ns1=ns++Tr.flats ns.length Ts
 at_:l=Tr.roots ns.length Ts
def MkP (K:Int→Bool) (p:Pars):Prop:=∀{r ns i r1 ns1},TokB r→p r ns= .ok (i,r1,ns1)→∃T,PutR K i ns ns1 T
theorem Puts.nil (ns:List Nd):Puts [] ns ns []:=⟨fun _ h=>(by cases h),by simp[Tr.flats],rfl⟩
theorem Puts.snoc {l:List Int} {ns ns1 ns2:List Nd} {Ts:List Tr} {i:Int} {T:Tr} (h:Puts l ns ns1 Ts) (k:PutR exprK i ns1 ns2 T):Puts (l++[i]) ns ns2 (Ts++[T]):=by
 have hl:ns1.length=ns.length+Tr.sizes Ts:=by rw[h.nodes,List.length_append,Tr.flats_length]
 refine⟨fun T' hT=>?_,?_,?_⟩
 ·rcases List.mem_append.1 hT with h'|h'
  ·exact h.wf T' h'
  ·rw[List.mem_singleton.1 h'];exact⟨k.wf,k.kind⟩
 ·rw[Tr.flats_append,k.nodes,h.nodes,List.append_assoc]
  congr 1
  rw[←hl,←h.nodes]
  simp[Tr.flats]
 ·rw[Tr.roots_append,h.at_,k.at_,hl]
  simp[Tr.roots]
theorem Puts.one {i:Int} {ns ns1:List Nd} {T:Tr} (k:PutR exprK i ns ns1 T):Puts [i] ns ns1 [T]:=(Puts.nil ns).snoc k
theorem Puts.add {l:List Int} {ns ns1:List Nd} {Ts:List Tr} (h:Puts l ns ns1 Ts) {K:Int→Bool} {a:Lab} {r r1:List Tok} {i:Int} {ns2:List Nd} (hn:addN ⟨a.kind,a.text,a.val,a.keys,l⟩ r ns1= .ok (i,r1,ns2))
  (hk:K a.kind=true) (hf:fieldsB a Ts.length=true) (hc:countB a.kind Ts.length=true) (hfit:∀j k,exprK k=true→fitsB a.kind j k=true):PutR K i ns ns2 (.node a Ts):=by
 obtain⟨rfl,rfl,rfl⟩:=addN_ok hn
 have hl:ns1.length=ns.length+Tr.sizes Ts:=by rw[h.nodes,List.length_append,Tr.flats_length]
 have hw:∀(Ts:List Tr) (j:Nat),(∀T∈Ts,T.wf=true∧exprK T.kind=true)→Tr.wfs a.kind j Ts=true:=by
  intro Ts
  induction Ts with
  |nil=>intro j _;rfl
  |cons T Ts ih=>
   intro j hT
   simp only[Tr.wfs,Bool.and_eq_true]
   exact⟨⟨hfit j _ (hT T (by simp)).2,(hT T (by simp)).1⟩,ih (j+1) fun T' h'=>hT T' (by simp[h'])⟩
 refine⟨?_,hk,?_,?_⟩
 ·simp only[Tr.wf,Bool.and_eq_true]
  exact⟨⟨hf,hc⟩,hw Ts 0 h.wf⟩
 ·simp only[Tr.flat]
  rw[h.nodes,h.at_,List.append_assoc]
 ·simp only[Tr.size];omega
section
variable {e:Int} {E:Pars} (hE:MkP exprK E) (hC:EatsP E)
include hE hC
theorem listF_put {fin:Bs}:∀(f:Nat) {l:List Int} {r:List Tok} {ns0 ns:List Nd} {Ts:List Tr} {l1:List Int} {r1:List Tok} {ns1:List Nd},TokB r→Puts l ns0 ns Ts→listF e fin E f l r ns= .ok (l1,r1,ns1)→∃Ts1,Puts l1 ns0 ns1 Ts1
 |0,l,r,ns0,ns,Ts,l1,r1,ns1,_,_,h=>by cases h
 |f+1,l,r,ns0,ns,Ts,l1,r1,ns1,hr,hp,h=>by
  simp only[listF] at h
  split at h
  ·cases h
  ·rename_i i r2 ns2 h2
   obtain⟨T,hT⟩:=hE hr h2
   have hp2:=hp.snoc hT
   split at h
   ·cases h;exact⟨_,hp2⟩
   ·split at h
    ·exact listF_put f (hr.eats (hC h2)).tail hp2 h
    ·cases h
theorem listP_put {fin:Bs} {r r1:List Tok} {ns ns1:List Nd} {l:List Int} (hr:TokB r) (h:listP e fin E r ns= .ok (l,r1,ns1)):∃Ts,Puts l ns ns1 Ts:=by
 unfold listP at h
 split at h
 ·cases h;exact⟨_,.nil ns⟩
 ·exact listF_put hE hC _ hr (.nil ns) h
omit hE hC in
theorem ascB_snoc:∀{ks:List Bs} {k:Bs},ascB ks=true→contB k=true→(ks=[]∨Op.bytesLess (ks.getLastD []) k=true)→ascB (ks++[k])=true
 |[],k,_,hk,_=>hk
 |[a],k,ha,hk,h=>by
  simp only[List.cons_append,List.nil_append,ascB,Bool.and_eq_true]
  rcases h with h|h
  ·cases h
  ·exact⟨⟨ha,h⟩,hk⟩
 |a::b::l,k,ha,hk,h=>by
  simp only[ascB,Bool.and_eq_true] at ha
  simp only[List.cons_append,ascB,Bool.and_eq_true]
  refine⟨ha.1,?_⟩
  have:=ascB_snoc (ks:=b::l) (k:=k) ha.2 hk (.inr (by
   rcases h with h|h
   ·cases h
   ·simpa using h))
  simpa using this
theorem keyF_put:∀(f:Nat) {ks:List Bs} {l:List Int} {r:List Tok} {ns0 ns:List Nd} {Ts:List Tr} {i:Int} {r1:List Tok} {ns1:List Nd},TokB r→Puts l ns0 ns Ts→ks.length=Ts.length→ascB ks=true→keyF e E f ks l r ns= .ok (i,r1,ns1)→∃T,PutR exprK i ns0 ns1 T
 |0,ks,l,r,ns0,ns,Ts,i,r1,ns1,_,_,_,_,h=>by cases h
 |f+1,ks,l,r,ns0,ns,Ts,i,r1,ns1,hr,hp,hl,ha,h=>by
  simp only[keyF] at h
  split at h
  rotate_left
  ·cases h
  rename_i hk
  obtain⟨hk1,hk2,hk3⟩:=hk
  split at h
  ·cases h
  rename_i r2 h2
  split at h
  ·cases h
  rename_i j r3 ns3 h3
  have hr2:=(hr.eats (.of_tail hk2)).eats (mustT_eats h2)
  obtain⟨T,hT⟩:=hE hr2 h3
  have hp2:=hp.snoc hT
  have hcont:contB (pText r)=true:=by
   cases r with
   |nil=>exact absurd rfl hk2
   |cons t r=>
    have h1:t.kind=4:=hk1
    have:=hr t (by simp)
    simp only[tokB,h1,Bool.and_eq_true] at this
    simpa[pText] using this.1.2
  have ha2:=ascB_snoc ha hcont hk3
  have hl2:(ks++[pText r]).length=(Ts++[T]).length:=by simp[hl]
  split at h
  ·refine⟨_,Puts.add hp2 (a:=⟨7,[],0,ks++[pText r]⟩) h rfl ?_ rfl fun j k hk=>?_⟩
   ·simp only[fieldsB];simp[ha2,hl]
   ·simpa[fitsB] using hk
  ·split at h
   ·exact keyF_put f (hr2.eats (hC h3)).tail hp2 hl2 ha2 h
   ·cases h
theorem keyP_put {r r1:List Tok} {ns ns1:List Nd} {i:Int} (hr:TokB r) (h:keyP e E r ns= .ok (i,r1,ns1)):∃T,PutR exprK i ns ns1 T:=by
 unfold keyP at h
 split at h
 ·refine⟨_,Puts.add (.nil ns) (a:=⟨7,[],0,[]⟩) h rfl rfl rfl fun j k hk=>?_⟩
  simpa[fitsB] using hk
 ·exact keyF_put hE hC _ hr (.nil ns) rfl rfl h
theorem primP_put:MkP exprK (primP e E):=by
 intro r ns i r1 ns1 hr h
 unfold primP at h
 cases r with
 |nil=>cases h
 |cons t r=>
  have ht:=hr t (by simp)
  simp only[tokB,Bool.and_eq_true,Bool.or_eq_true,Bool.not_eq_true',decide_eq_false_iff_not,decide_eq_true_eq] at ht
  obtain⟨⟨⟨ht1,ht3⟩,ht4⟩,ht6⟩:=ht
  have hr0:TokB r:=hr.tail
  have fit:∀k,k≠19→k≠15→k≠16→∀(j:Nat) q,exprK q=true→fitsB k j q=true:=fun k h1 h2 h3 j q hq=>by simp[fitsB,h1,h2,h3,hq]
  dsimp only at h
  split at h
  ·rename_i hk
   exact⟨_,Puts.add (.nil ns) (a:=⟨3,[],t.val,[]⟩) h rfl (by simpa[fieldsB] using ht3.resolve_left (by simp[hk])) rfl (fit 3 (by decide) (by decide) (by decide))⟩
  split at h
  ·rename_i hk
   exact⟨_,Puts.add (.nil ns) (a:=⟨4,t.text,0,[]⟩) h rfl (by simpa[fieldsB] using ht4.resolve_left (by simp[hk])) rfl (fit 4 (by decide) (by decide) (by decide))⟩
  split at h
  ·exact⟨_,Puts.add (.nil ns) (a:=⟨1,[],0,[]⟩) h rfl rfl rfl (fit 1 (by decide) (by decide) (by decide))⟩
  split at h
  ·exact⟨_,Puts.add (.nil ns) (a:=⟨2,[],1,[]⟩) h rfl rfl rfl (fit 2 (by decide) (by decide) (by decide))⟩
  split at h
  ·exact⟨_,Puts.add (.nil ns) (a:=⟨2,[],0,[]⟩) h rfl rfl rfl (fit 2 (by decide) (by decide) (by decide))⟩
  split at h
  ·rename_i hk
   have hn:nameB t.text=true:=ht1.resolve_left (by simp[hk])
   split at h
   ·rename_i hk2
    split at h
    ·cases h
    ·rename_i h2
     obtain⟨Ts,hTs⟩:=listP_put hE hC hr0.tail h2
     exact⟨_,hTs.add (a:=⟨11,t.text,0,[]⟩) h rfl (by simpa[fieldsB] using hn) rfl (fit 11 (by decide) (by decide) (by decide))⟩
   ·exact⟨_,Puts.add (.nil ns) (a:=⟨5,t.text,0,[]⟩) h rfl (by simpa[fieldsB] using hn) rfl (fit 5 (by decide) (by decide) (by decide))⟩
  split at h
  ·rename_i hk
   have hn:wholeB t.text=true:=ht6.resolve_left (by simp[hk])
   split at h
   ·cases h
   ·rename_i h2
    split at h
    ·cases h
    ·rename_i h3
     obtain⟨Ts,hTs⟩:=listP_put hE hC (hr0.eats (mustT_eats h2)) h3
     exact⟨_,hTs.add (a:=⟨12,t.text,0,[]⟩) h rfl (by simpa[fieldsB] using hn) rfl (fit 12 (by decide) (by decide) (by decide))⟩
  split at h
  ·split at h
   ·cases h
   ·rename_i h2
    obtain⟨Ts,hTs⟩:=listP_put hE hC hr0 h2
    exact⟨_,hTs.add (a:=⟨6,[],0,[]⟩) h rfl rfl rfl (fit 6 (by decide) (by decide) (by decide))⟩
  split at h
  ·exact keyP_put hE hC hr0 h
  split at h
  ·split at h
   ·cases h
   ·rename_i h2
    split at h
    ·cases h
    ·cases h
     exact hE hr0 h2
  ·cases h
theorem postF_put:∀(f:Nat) {i:Int} {r:List Tok} {ns0 ns:List Nd} {T:Tr} {j:Int} {r1:List Tok} {ns1:List Nd},TokB r→PutR exprK i ns0 ns T→postF e E f i r ns= .ok (j,r1,ns1)→∃T,PutR exprK j ns0 ns1 T
 |0,i,r,ns0,ns,T,j,r1,ns1,_,hT,h=>by cases h;exact⟨T,hT⟩
 |f+1,i,r,ns0,ns,T,j,r1,ns1,hr,hT,h=>by
  simp only[postF] at h
  split at h
  ·split at h
   ·cases h
   rename_i h2
   split at h
   ·cases h
   rename_i h3
   obtain⟨T2,hT2⟩:=hE hr.tail h2
   have hp:=(Puts.one hT).snoc hT2
   refine postF_put f ((hr.tail.eats (hC h2)).eats (mustT_eats h3)) (hp.add (K:=exprK) (a:=⟨10,[],0,[]⟩) (r:=[]) rfl rfl rfl rfl fun j k hk=>?_) h
   simpa[fitsB] using hk
  ·cases h;exact⟨T,hT⟩
theorem postP_put:MkP exprK (postP e E):=by
 intro r ns i r1 ns1 hr h
 unfold postP at h
 split at h
 ·cases h
 ·rename_i h2
  obtain⟨T,hT⟩:=primP_put hE hC hr h2
  exact postF_put hE hC _ (hr.eats (primP_eats hC h2)) hT h
theorem unaryP_put:MkP exprK (unaryP e E):=by
 intro r
 induction r with
 |nil=>intro ns i r1 ns1 hr h;exact postP_put hE hC hr h
 |cons t r ih=>
  intro ns i r1 ns1 hr h
  simp only[unaryP] at h
  split at h
  ·split at h
   ·cases h
   ·rename_i h2
    obtain⟨T,hT⟩:=ih hr.tail h2
    exact⟨_,(Puts.one hT).add (a:=⟨8,sMi,0,[]⟩) h rfl rfl rfl fun j k hk=>by simpa[fitsB] using hk⟩
  ·exact postP_put hE hC hr h
end
theorem chainF_put {k:Int} {ops:List Bs} (hops:∀s,ops.contains s=true→0<binL s) {O:Pars} (hO:MkP exprK O) (hC:EatsP O):∀(f:Nat) {i:Int} {r:List Tok} {ns0 ns:List Nd} {T:Tr} {j:Int} {r1:List Tok} {ns1:List Nd},TokB r→PutR exprK i ns0 ns T→chainF k ops O f i r ns= .ok (j,r1,ns1)→∃T,PutR exprK j ns0 ns1 T
 |0,i,r,ns0,ns,T,j,r1,ns1,_,hT,h=>by cases h;exact⟨T,hT⟩
 |f+1,i,r,ns0,ns,T,j,r1,ns1,hr,hT,h=>by
  simp only[chainF] at h
  split at h
  ·rename_i hk
   split at h
   ·cases h
   rename_i h2
   obtain⟨T2,hT2⟩:=hO hr.tail h2
   have hp:=(Puts.one hT).snoc hT2
   refine chainF_put hops hO hC f (hr.tail.eats (hC h2)) (hp.add (K:=exprK) (a:=⟨9,pText r,0,[]⟩) (r:=[]) rfl rfl (by simpa[fieldsB] using hops _ hk.2.1) rfl fun j k hk=>?_) h
   simpa[fitsB] using hk
  ·cases h;exact⟨T,hT⟩
theorem chainP_put {k:Int} {ops:List Bs} (hops:∀s,ops.contains s=true→0<binL s) {O:Pars} (hO:MkP exprK O) (hC:EatsP O):MkP exprK (chainP k ops O):=by
 intro r ns i r1 ns1 hr h
 unfold chainP at h
 split at h
 ·cases h
 ·rename_i h2
  obtain⟨T,hT⟩:=hO hr h2
  exact chainF_put hops hO hC _ (hr.eats (hC h2)) hT h
theorem opMul_bin (s:Bs) (h:opMul.contains s=true):0<binL s:=by
 simp only[opMul,List.contains_cons,List.contains_nil,Bool.or_false,Bool.or_eq_true,beq_iff_eq] at h
 rcases h with rfl|rfl|rfl<;>decide
theorem opAdd_bin (s:Bs) (h:opAdd.contains s=true):0<binL s:=by
 simp only[opAdd,List.contains_cons,List.contains_nil,Bool.or_false,Bool.or_eq_true,beq_iff_eq] at h
 rcases h with rfl|rfl<;>decide
theorem opCmp_bin (s:Bs) (h:opCmp.contains s=true):0<binL s:=by
 simp only[opCmp,List.contains_cons,List.contains_nil,Bool.or_false,Bool.or_eq_true,beq_iff_eq] at h
 rcases h with rfl|rfl|rfl|rfl|rfl|rfl<;>decide
theorem opAnd_bin (s:Bs) (h:[wAnd].contains s=true):0<binL s:=by
 simp only[List.contains_cons,List.contains_nil,Bool.or_false,beq_iff_eq] at h
 subst h;decide
theorem opOr_bin (s:Bs) (h:[wOr].contains s=true):0<binL s:=by
 simp only[List.contains_cons,List.contains_nil,Bool.or_false,beq_iff_eq] at h
 subst h;decide
section
variable {e:Int} {E:Pars} (hE:MkP exprK E) (hC:EatsP E)
include hE hC
theorem termP_put:MkP exprK (termP e E):=chainP_put opMul_bin (unaryP_put hE hC) (unaryP_eats hC)
theorem sumP_put:MkP exprK (sumP e E):=chainP_put opAdd_bin (termP_put hE hC) (termP_eats hC)
theorem cmpP_put:MkP exprK (cmpP e E):=by
 intro r ns i r1 ns1 hr h
 unfold cmpP at h
 split at h
 ·cases h
 ·rename_i i1 r2 ns2 h2
  obtain⟨T,hT⟩:=sumP_put hE hC hr h2
  split at h
  ·rename_i hk
   split at h
   ·cases h
   ·rename_i h3
    obtain⟨T2,hT2⟩:=sumP_put hE hC (hr.eats (sumP_eats hC h2)).tail h3
    exact⟨_,((Puts.one hT).snoc hT2).add (a:=⟨9,pText r2,0,[]⟩) h rfl (by have:=opCmp_bin _ hk.2.1;simp only[fieldsB];simp[this]) rfl fun j k hk=>by simpa[fitsB] using hk⟩
  ·cases h;exact⟨T,hT⟩
theorem notP_put:MkP exprK (notP e E):=by
 intro r
 induction r with
 |nil=>intro ns i r1 ns1 hr h;exact cmpP_put hE hC hr h
 |cons t r ih=>
  intro ns i r1 ns1 hr h
  simp only[notP] at h
  split at h
  ·split at h
   ·cases h
   ·rename_i h2
    obtain⟨T,hT⟩:=ih hr.tail h2
    exact⟨_,(Puts.one hT).add (a:=⟨8,wNot,0,[]⟩) h rfl rfl rfl fun j k hk=>by simpa[fitsB] using hk⟩
  ·exact cmpP_put hE hC hr h
theorem andP_put:MkP exprK (andP e E):=chainP_put opAnd_bin (notP_put hE hC) (notP_eats hC)
theorem orP_put:MkP exprK (orP e E):=chainP_put opOr_bin (andP_put hE hC) (andP_eats hC)
end
theorem exprP_put {e:Int}:∀f,MkP exprK (exprP e f)
 |0=>fun _ h=>by cases h
 |f+1=>orP_put (exprP_put f) (exprP_eats f)
end Go.Proofs.YtglndfgmlminpaaGreatDoor
