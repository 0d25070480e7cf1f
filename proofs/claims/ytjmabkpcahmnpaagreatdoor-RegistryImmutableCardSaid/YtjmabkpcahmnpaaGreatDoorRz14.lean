/- Texts joined by pack.py: XSy0 XSxE2 XSyDa XSt0 XSxCa XSxCb -/
import Derived.Test.YtjmabkpcahmnpaaGreatDoorRz13
import Derived.Laws.StructEq
import Derived.Test.YtjmabkpcahmnpaaGreatDoorRz11
namespace Go.Proofs.YtjmabkpcahmnpaaGreatDoor
structure Nd where
 kind:Int
 text:Bs
 val:Int
 keys:List Bs
 kids:List Int
structure Fc where
 name:Bs
 params:List Bs
 body:Int
structure Pg where
 nodes:List Nd
 funcs:List Fc
abbrev PRes (α:Type):=Except Int (α×List Tok×List Nd)
def offT (e:Int):List Tok→Int
 |t::_=>t.at_
 |[]=>e
def isTk (k:Int) (s:Bs):List Tok→Bool
 |t::_=>decide (t.kind=k)&&(t.text==s)
 |[]=>false
abbrev isSym (s:Bs) (r:List Tok):Bool:=isTk 5 s r
abbrev isWrd (s:Bs) (r:List Tok):Bool:=isTk 2 s r
def sLP:Bs:=[40]
def sRP:Bs:=[41]
def sLB:Bs:=[91]
def sRB:Bs:=[93]
def sLC:Bs:=[123]
def sRC:Bs:=[125]
def sCm:Bs:=[44]
def sCl:Bs:=[58]
def sSc:Bs:=[59]
def sEq1:Bs:=[61]
def sMi:Bs:=[45]
def wFunc:Bs:=[102,117,110,99]
def wLet:Bs:=[108,101,116]
def wIf:Bs:=[105,102]
def wElse:Bs:=[101,108,115,101]
def wWhile:Bs:=[119,104,105,108,101]
def wReturn:Bs:=[114,101,116,117,114,110]
def wAnd:Bs:=[97,110,100]
def wOr:Bs:=[111,114]
def wNot:Bs:=[110,111,116]
def wNull:Bs:=[110,117,108,108]
def wTrue:Bs:=[116,114,117,101]
def wFalse:Bs:=[102,97,108,115,101]
def opMul:List Bs:=[[42],[47],[37]]
def opAdd:List Bs:=[[43],[45]]
def opCmp:List Bs:=[[61,61],[33,61],[60],[60,61],[62],[62,61]]
def ndM (kind:Int) (text:Bs) (val:Int) (kids:List Int):Nd:=⟨kind,text,val,[],kids⟩
def addN (n:Nd) (r:List Tok) (ns:List Nd):PRes Int:= .ok ((ns.length:Int),r,ns++[n])
def mustT (e:Int) (k:Int) (s:Bs) (r:List Tok):Except Int (List Tok):=if isTk k s r then .ok r.tail else .error (offT e r)
def pKind:List Tok→Int
 |t::_=>t.kind
 |[]=>0
def pText:List Tok→Bs
 |t::_=>t.text
 |[]=>[]
def mustK (e:Int) (k:Int) (r:List Tok):Except Int (Bs×List Tok):=if pKind r=k∧r≠[] then .ok (pText r,r.tail) else .error (offT e r)
abbrev Pars:=List Tok→List Nd→PRes Int
def listF (e:Int) (fin:Bs) (E:Pars):Nat→List Int→List Tok→List Nd→PRes (List Int)
 |0,_,r,_=> .error (offT e r)
 |f+1,l,r,ns=>match E r ns with
  | .error o=> .error o
  | .ok (i,r1,ns1)=>
   if isSym fin r1 then .ok (l++[i],r1.tail,ns1)
   else if isSym sCm r1 then listF e fin E f (l++[i]) r1.tail ns1
   else .error (offT e r1)
def listP (e:Int) (fin:Bs) (E:Pars) (r:List Tok) (ns:List Nd):PRes (List Int):=
 if isSym fin r then .ok ([],r.tail,ns) else listF e fin E r.length [] r ns
def keyF (e:Int) (E:Pars):Nat→List Bs→List Int→List Tok→List Nd→PRes Int
 |0,_,_,r,_=> .error (offT e r)
 |f+1,ks,l,r,ns=>
  if pKind r=4∧r≠[]∧(ks=[]∨Op.bytesLess (ks.getLastD []) (pText r)=true) then
   (match mustT e 5 sCl r.tail with
   | .error o=> .error o
   | .ok r1=>match E r1 ns with
    | .error o=> .error o
    | .ok (i,r2,ns2)=>
     if isSym sRC r2 then addN ⟨7,[],0,ks++[pText r],l++[i]⟩ r2.tail ns2
     else if isSym sCm r2 then keyF e E f (ks++[pText r]) (l++[i]) r2.tail ns2
     else .error (offT e r2))
  else .error (offT e r)
def keyP (e:Int) (E:Pars) (r:List Tok) (ns:List Nd):PRes Int:=
 if isSym sRC r then addN ⟨7,[],0,[],[]⟩ r.tail ns else keyF e E r.length [] [] r ns
def primP (e:Int) (E:Pars) (r:List Tok) (ns:List Nd):PRes Int:=
 match r with
 |[]=> .error e
 |t::r1=>
  if t.kind=3 then addN (ndM 3 [] t.val []) r1 ns
  else if t.kind=4 then addN (ndM 4 t.text 0 []) r1 ns
  else if isWrd wNull r then addN (ndM 1 [] 0 []) r1 ns
  else if isWrd wTrue r then addN (ndM 2 [] 1 []) r1 ns
  else if isWrd wFalse r then addN (ndM 2 [] 0 []) r1 ns
  else if t.kind=1 then
   (if isSym sLP r1 then(match listP e sRP E r1.tail ns with
    | .error o=> .error o
    | .ok (l,r2,ns2)=>addN (ndM 11 t.text 0 l) r2 ns2)
   else addN (ndM 5 t.text 0 []) r1 ns)
  else if t.kind=6 then
   (match mustT e 5 sLP r1 with
   | .error o=> .error o
   | .ok r2=>match listP e sRP E r2 ns with
    | .error o=> .error o
    | .ok (l,r3,ns3)=>addN (ndM 12 t.text 0 l) r3 ns3)
  else if isSym sLB r then
   (match listP e sRB E r1 ns with
   | .error o=> .error o
   | .ok (l,r2,ns2)=>addN (ndM 6 [] 0 l) r2 ns2)
  else if isSym sLC r then keyP e E r1 ns
  else if isSym sLP r then
   (match E r1 ns with
   | .error o=> .error o
   | .ok (i,r2,ns2)=>match mustT e 5 sRP r2 with
    | .error o=> .error o
    | .ok r3=> .ok (i,r3,ns2))
  else .error t.at_
def postF (e:Int) (E:Pars):Nat→Int→List Tok→List Nd→PRes Int
 |0,i,r,ns=> .ok (i,r,ns)
 |f+1,i,r,ns=>
  if isSym sLB r then
   (match E r.tail ns with
   | .error o=> .error o
   | .ok (k,r1,ns1)=>match mustT e 5 sRB r1 with
    | .error o=> .error o
    | .ok r2=>postF e E f (ns1.length:Int) r2 (ns1++[ndM 10 [] 0 [i,k]]))
  else .ok (i,r,ns)
def postP (e:Int) (E:Pars) (r:List Tok) (ns:List Nd):PRes Int:=
 match primP e E r ns with
 | .error o=> .error o
 | .ok (i,r1,ns1)=>postF e E r1.length i r1 ns1
def unaryP (e:Int) (E:Pars):List Tok→List Nd→PRes Int
 |[],ns=>postP e E [] ns
 |t::r1,ns=>
  if isSym sMi (t::r1) then
   (match unaryP e E r1 ns with
   | .error o=> .error o
   | .ok (i,r2,ns2)=>addN (ndM 8 sMi 0 [i]) r2 ns2)
  else postP e E (t::r1) ns
def chainF (k:Int) (ops:List Bs) (O:Pars):Nat→Int→List Tok→List Nd→PRes Int
 |0,i,r,ns=> .ok (i,r,ns)
 |f+1,i,r,ns=>
  if pKind r=k∧ops.contains (pText r)=true∧r≠[] then
   (match O r.tail ns with
   | .error o=> .error o
   | .ok (j,r1,ns1)=>chainF k ops O f (ns1.length:Int) r1 (ns1++[ndM 9 (pText r) 0 [i,j]]))
  else .ok (i,r,ns)
def chainP (k:Int) (ops:List Bs) (O:Pars) (r:List Tok) (ns:List Nd):PRes Int:=
 match O r ns with
 | .error o=> .error o
 | .ok (i,r1,ns1)=>chainF k ops O r1.length i r1 ns1
def termP (e:Int) (E:Pars):Pars:=chainP 5 opMul (unaryP e E)
def sumP (e:Int) (E:Pars):Pars:=chainP 5 opAdd (termP e E)
def cmpP (e:Int) (E:Pars) (r:List Tok) (ns:List Nd):PRes Int:=
 match sumP e E r ns with
 | .error o=> .error o
 | .ok (i,r1,ns1)=>
  if pKind r1=5∧opCmp.contains (pText r1)=true∧r1≠[] then
   (match sumP e E r1.tail ns1 with
   | .error o=> .error o
   | .ok (j,r2,ns2)=>addN (ndM 9 (pText r1) 0 [i,j]) r2 ns2)
  else .ok (i,r1,ns1)
def notP (e:Int) (E:Pars):List Tok→List Nd→PRes Int
 |[],ns=>cmpP e E [] ns
 |t::r1,ns=>
  if isWrd wNot (t::r1) then
   (match notP e E r1 ns with
   | .error o=> .error o
   | .ok (i,r2,ns2)=>addN (ndM 8 wNot 0 [i]) r2 ns2)
  else cmpP e E (t::r1) ns
def andP (e:Int) (E:Pars):Pars:=chainP 2 [wAnd] (notP e E)
def orP (e:Int) (E:Pars):Pars:=chainP 2 [wOr] (andP e E)
def exprP (e:Int):Nat→Pars
 |0=>fun r _=> .error (offT e r)
 |f+1=>orP e (exprP e f)
def valueP (e:Int) (f:Nat) (kind:Int) (text:Bs) (r:List Tok) (ns:List Nd):PRes Int:=
 match exprP e f r ns with
 | .error o=> .error o
 | .ok (i,r1,ns1)=>match mustT e 5 sSc r1 with
  | .error o=> .error o
  | .ok r2=>addN (ndM kind text 0 [i]) r2 ns1
def assigns:List Tok→Bool
 |t::r=>decide (t.kind=1)&&isSym sEq1 r
 |[]=>false
def stmtP (e:Int) (f:Nat) (Bl:Pars) (r:List Tok) (ns:List Nd):PRes Int:=
 if isWrd wLet r then
  (match mustK e 1 r.tail with
  | .error o=> .error o
  | .ok (s,r1)=>match mustT e 5 sEq1 r1 with
   | .error o=> .error o
   | .ok r2=>valueP e f 13 s r2 ns)
 else if isWrd wIf r then
  (match exprP e f r.tail ns with
  | .error o=> .error o
  | .ok (c,r1,ns1)=>match Bl r1 ns1 with
   | .error o=> .error o
   | .ok (b,r2,ns2)=>
    if isWrd wElse r2 then
     (match Bl r2.tail ns2 with
     | .error o=> .error o
     | .ok (b2,r3,ns3)=>addN (ndM 15 [] 0 [c,b,b2]) r3 ns3)
    else addN (ndM 15 [] 0 [c,b]) r2 ns2)
 else if isWrd wWhile r then
  (match exprP e f r.tail ns with
  | .error o=> .error o
  | .ok (c,r1,ns1)=>match Bl r1 ns1 with
   | .error o=> .error o
   | .ok (b,r2,ns2)=>addN (ndM 16 [] 0 [c,b]) r2 ns2)
 else if isWrd wReturn r then valueP e f 17 [] r.tail ns
 else if assigns r then valueP e f 14 (pText r) r.tail.tail ns
 else valueP e f 18 [] r ns
def stmtsF (e:Int) (S:Pars):Nat→List Int→List Tok→List Nd→PRes Int
 |0,_,r,_=> .error (offT e r)
 |g+1,l,r,ns=>
  if isSym sRC r then addN (ndM 19 [] 0 l) r.tail ns
  else match S r ns with
   | .error o=> .error o
   | .ok (i,r1,ns1)=>stmtsF e S g (l++[i]) r1 ns1
def blockP (e:Int):Nat→Pars
 |0=>fun r _=> .error (offT e r)
 |f+1=>fun r ns=>match mustT e 5 sLC r with
  | .error o=> .error o
  | .ok r1=>stmtsF e (stmtP e (f+1) (blockP e f)) (r1.length+1) [] r1 ns
def parF (e:Int):Nat→List Bs→List Tok→Except Int (List Bs×List Tok)
 |0,_,r=> .error (offT e r)
 |f+1,l,r=>match mustK e 1 r with
  | .error o=> .error o
  | .ok (s,r1)=>
   if isSym sRP r1 then .ok (l++[s],r1.tail)
   else if isSym sCm r1 then parF e f (l++[s]) r1.tail
   else .error (offT e r1)
def parP (e:Int) (r:List Tok):Except Int (List Bs×List Tok):=if isSym sRP r then .ok ([],r.tail) else parF e r.length [] r
def funcP (e:Int) (f:Nat) (r:List Tok) (ns:List Nd):Except Int (Fc×List Tok×List Nd):=
 match mustT e 2 wFunc r with
 | .error o=> .error o
 | .ok r1=>match mustK e 1 r1 with
  | .error o=> .error o
  | .ok (s,r2)=>match mustT e 5 sLP r2 with
   | .error o=> .error o
   | .ok r3=>match parP e r3 with
    | .error o=> .error o
    | .ok (ps,r4)=>match blockP e f r4 ns with
     | .error o=> .error o
     | .ok (b,r5,ns5)=> .ok (⟨s,ps,b⟩,r5,ns5)
def progF (e:Int) (f:Nat):Nat→List Fc→List Tok→List Nd→Except Int Pg
 |0,fs,_,ns=> .ok ⟨ns,fs⟩
 |g+1,fs,r,ns=>
  if r=[] then .ok ⟨ns,fs⟩
  else match funcP e f r ns with
   | .error o=> .error o
   | .ok (x,r1,ns1)=>progF e f g (fs++[x]) r1 ns1
def progP (e:Int) (r:List Tok):Except Int Pg:=progF e (r.length+1) r.length [] r []
end Go.Proofs.YtjmabkpcahmnpaaGreatDoor
namespace Go.Proofs.YtjmabkpcahmnpaaGreatDoor
open Go.RowKit
end Go.Proofs.YtjmabkpcahmnpaaGreatDoor
namespace Go.Proofs.YtjmabkpcahmnpaaGreatDoor
open Go.RowKit
def intD (n:Int):List D:=[.cv (.int .i64 n)]
abbrev intsV (l:List Int):V:= .sl true 1 (l.map intD)
def ndD (n:Nd):List D:=[.cv (.int .i64 n.kind),.cv (.string (mk n.text)),.cv (.int .i64 n.val),.sl 1 (n.keys.map strD),.sl 1 (n.kids.map intD)]
def fcD (f:Fc):List D:=[.cv (.string (mk f.name)),.sl 1 (f.params.map strD),.cv (.int .i64 f.body)]
abbrev Nd.V (n:Nd):V:= .ag [int n.kind,bstr n.text,int n.val,strsV n.keys,intsV n.kids]
abbrev Fc.V (f:Fc):V:= .ag [bstr f.name,strsV f.params,int f.body]
abbrev Pg.V (p:Pg):V:= .ag [.sl true 5 (p.nodes.map ndD),.sl true 3 (p.funcs.map fcD)]
end Go.Proofs.YtjmabkpcahmnpaaGreatDoor
namespace Go.Proofs.YtjmabkpcahmnpaaGreatDoor
def getB {α:Type}:List (Bs×α)→Bs→Option α
 |[],_=>none
 |(k,x)::l,t=>if k=t then some x else getB l t
def putB {α:Type}:List (Bs×α)→Bs→α→List (Bs×α)
 |[],t,c=>[(t,c)]
 |(k,x)::l,t,c=>if k=t then(k,c)::l else(k,x)::putB l t c
def delB {α:Type}:List (Bs×α)→Bs→List (Bs×α)
 |[],_=>[]
 |(k,x)::l,t=>if k=t then l else(k,x)::delB l t
def builtT:List (Bs×Int):=[([108,101,110],1),([115,116,114],1),([105,110,116],1),([112,117,115,104],2),([112,117,116],3),([107,101,121,115],1),([104,97,115],2),([102,97,105,108],1)]
def hostT:List (Bs×Int):=[([103,101,116],1),([112,117,116],2),([100,101,108,101,116,101],1),([115,101,110,100],2),([116,105,109,101,114],3),([115,105,103,110,97,108],2),([115,101,99,114,101,116],1),([102,101,116,99,104],2),([110,111,119],0),([108,111,103],1)]
def wMain:Bs:=[109,97,105,110]
structure Scp where
 vis:List (Bs×Int)
 nx:Int
 sl:List Int
 er:List Int
def arF (x:Bs):List Fc→Option Int
 |[]=>none
 |s::l=>if s.name=x then some s.params.length else arF x l
def callE (fs:List Fc) (n:Nd):Int:=match(match arF n.text fs with|some k=>some k|none=>getB builtT n.text) with
 |none=>4
 |some k=>if k=n.kids.length then 0 else 7
def hostE (n:Nd):Int:=match getB hostT n.text with
 |none=>4
 |some k=>if k=n.kids.length then 0 else 7
def letS (at_:Nat) (t:Bs) (s:Scp):Scp:=
 let s1:Scp:={s with nx:=IntKind.i64.wrap (s.nx+1),sl:=s.sl.set at_ s.nx}
 match getB s.vis t with
 |some _=>{s1 with er:=s.er.set at_ 6}
 |none=>if s.nx=32 then {s1 with er:=s.er.set at_ 3} else {s1 with vis:=putB s.vis t s.nx}
def lastS (fs:List Fc) (at_:Nat) (n:Nd) (s:Scp):Scp:=
 if n.kind=5∨n.kind=14 then(match getB s.vis n.text with|some k=>{s with sl:=s.sl.set at_ k}|none=>{s with er:=s.er.set at_ 4})
 else if n.kind=13 then letS at_ n.text s
 else if n.kind=11 then {s with er:=s.er.set at_ (callE fs n)}
 else if n.kind=12 then(if hostE n=0 then s else {s with er:=s.er.set at_ (hostE n)})
 else s
def declS (ns:List Nd) (k:Nat) (s:Scp) (l:List Bs):List Bs:=match ns[k]? with
 |some x=>if x.kind=13∧s.er[k]?=some 0 then l++[x.text] else l
 |none=>l
def blkS (ns:List Nd) (w:Nat→Scp→Scp) (r:Scp×List Bs) (k:Int):Scp×List Bs:=(w k.toNat r.1,declS ns k.toNat (w k.toNat r.1) r.2)
def walkS (ns:List Nd) (fs:List Fc):Nat→Nat→Scp→Scp
 |0,_,s=>s
 |f+1,at_,s=>match ns[at_]? with
  |none=>s
  |some n=>if n.kind=19 then(let r:=n.kids.foldl (blkS ns (walkS ns fs f)) (s,[]);{r.1 with vis:=r.2.foldl delB r.1.vis}) else lastS fs at_ n (n.kids.foldl (fun s k=>walkS ns fs f k.toNat s) s)
end Go.Proofs.YtjmabkpcahmnpaaGreatDoor
namespace Go.Proofs.YtjmabkpcahmnpaaGreatDoor
open Go.RowKit
inductive Cl where
 |d (x:D)
 |r (E sz:Nat) (xs:List (List D))
 |o (i:Nat)
 |z
def RowOk (S:Nat→Prop) (w:World) (E sz:Nat) (xs:List (List D)) (u:Value):Prop:=
 ∃us,w.ownsRow 0 E sz u xs.length us∧(∀x∈xs,x.length=sz)∧0<sz∧∀i j d,(xs[i]?.bind fun x=>x[j]?)=some d→∃u',us[i*sz+j]?=some u'∧RelD S w d u'
theorem RowOk.slice {S:Nat→Prop} {w:World} {E sz:Nat} {xs:List (List D)} {u:Value} (h:RowOk S w E sz xs u):∃A c,u= .slice A xs.length c:=own_parts h.choose_spec.1
theorem RowOk.mono {S S':Nat→Prop} {w w':World} {E sz:Nat} {xs:List (List D)} {u:Value} (hS:∀g,S g→S' g) (hw:∀g,S g→w'.heap[g]?=w.heap[g]?) (hb:∀g,at1 u=some g→w'.heap[g]?=w.heap[g]?) (h:RowOk S w E sz xs u):RowOk S' w' E sz xs u:=by
 obtain⟨A,c,rfl⟩:=h.slice
 obtain⟨us,h1,h2,h3,h4⟩:=h
 refine⟨us,ownsRow_mono h1 hb,h2,h3,fun i j d hd=>?_⟩
 obtain⟨u',e1,e2⟩:=h4 i j d hd
 exact⟨u',e1,e2.mono hS hw⟩
inductive Cells (S:Nat→Prop) (w:World) (outs:List Value):List Cl→List Value→List Value→Prop
 |nil:Cells S w outs [] [] []
 |d {x:D} {u:Value} {cs:List Cl} {us ow:List Value} (h:RelD S w x u) (t:Cells S w outs cs us ow):Cells S w outs (.d x::cs) (u::us) ow
 |r {E sz:Nat} {xs:List (List D)} {u:Value} {cs:List Cl} {us ow:List Value} (h:RowOk S w E sz xs u) (t:Cells S w outs cs us ow):Cells S w outs (.r E sz xs::cs) (u::us) (u::ow)
 |o {i:Nat} {u:Value} {cs:List Cl} {us ow:List Value} (h:outs[i]?=some u) (h1:u.oneCell'=true) (t:Cells S w outs cs us ow):Cells S w outs (.o i::cs) (u::us) ow
 |z {u:Value} {cs:List Cl} {us ow:List Value} (h1:u.oneCell'=true) (t:Cells S w outs cs us ow):Cells S w outs (.z::cs) (u::us) ow
theorem Cells.mono {S S':Nat→Prop} {w w':World} {outs:List Value} {cs:List Cl} {us ow:List Value} (hS:∀g,S g→S' g) (hw:∀g,S g→w'.heap[g]?=w.heap[g]?) (h:Cells S w outs cs us ow):
  (∀u∈ow,∀g,at1 u=some g→w'.heap[g]?=w.heap[g]?)→Cells S' w' outs cs us ow:=by
 induction h with
 |nil=>intro _;exact .nil
 |d h _ ih=>intro hb;exact .d (h.mono hS hw) (ih hb)
 |r h _ ih=>intro hb;exact .r (h.mono hS hw (hb _ (by simp))) (ih fun u hu=>hb u (by simp[hu]))
 |o h h1 _ ih=>intro hb;exact .o h h1 (ih hb)
 |z h1 _ ih=>intro hb;exact .z h1 (ih hb)
theorem Cells.len {S:Nat→Prop} {w:World} {outs:List Value} {cs:List Cl} {us ow:List Value} (h:Cells S w outs cs us ow):cs.length=us.length:=by
 induction h<;>simp_all
theorem Cells.one {S:Nat→Prop} {w:World} {outs:List Value} {cs:List Cl} {us ow:List Value} (h:Cells S w outs cs us ow):∀u∈us,u.oneCell'=true:=by
 induction h with
 |nil=>simp
 |d h _ ih=>
  simp only[List.mem_cons];rintro u (rfl|hu)
  ·exact h.one
  ·exact ih u hu
 |r h _ ih=>
  obtain⟨A,c,rfl⟩:=h.slice
  simp only[List.mem_cons];rintro u (rfl|hu)
  ·rfl
  ·exact ih u hu
 |o _ h1 _ ih=>
  simp only[List.mem_cons];rintro u (rfl|hu)
  ·exact h1
  ·exact ih u hu
 |z h1 _ ih=>
  simp only[List.mem_cons];rintro u (rfl|hu)
  ·exact h1
  ·exact ih u hu
theorem Cells.o_inv {S:Nat→Prop} {w:World} {outs:List Value} {i:Nat} {cs:List Cl} {us ow:List Value} (h:Cells S w outs (.o i::cs) us ow):∃u us',us=u::us'∧outs[i]?=some u∧u.oneCell'=true∧Cells S w outs cs us' ow:=by
 cases h with
 |o h h1 t=>exact⟨_,_,rfl,h,h1,t⟩
theorem Cells.r_inv {S:Nat→Prop} {w:World} {outs:List Value} {E sz:Nat} {xs:List (List D)} {cs:List Cl} {us ow:List Value} (h:Cells S w outs (.r E sz xs::cs) us ow):∃u us' ow',us=u::us'∧ow=u::ow'∧RowOk S w E sz xs u∧Cells S w outs cs us' ow':=by
 cases h with
 |r h t=>exact⟨_,_,_,rfl,rfl,h,t⟩
theorem Cells.tl {S:Nat→Prop} {w:World} {outs:List Value} {c:Cl} {cs:List Cl} {u:Value} {us ow:List Value} (h:Cells S w outs (c::cs) (u::us) ow):∃ow',ow'.Sublist ow∧Cells S w outs cs us ow':=by
 cases h with
 |d _ t=>exact⟨_,List.Sublist.refl _,t⟩
 |r _ t=>exact⟨_,List.sublist_cons_self _ _,t⟩
 |o _ _ t=>exact⟨_,List.Sublist.refl _,t⟩
 |z _ t=>exact⟨_,List.Sublist.refl _,t⟩
theorem Cells.app {S:Nat→Prop} {w:World} {outs:List Value} {cs cs':List Cl} {us us' ow ow':List Value} (h:Cells S w outs cs us ow) (h':Cells S w outs cs' us' ow'):Cells S w outs (cs++cs') (us++us') (ow++ow'):=by
 induction h with
 |nil=>exact h'
 |d h _ ih=>exact .d h ih
 |r h _ ih=>exact .r h ih
 |o h h1 _ ih=>exact .o h h1 ih
 |z h1 _ ih=>exact .z h1 ih
theorem Cells.unapp {S:Nat→Prop} {w:World} {outs:List Value} {cs':List Cl}:∀{cs:List Cl} {us ow:List Value},Cells S w outs (cs++cs') us ow→
  ∃us1 us2 ow1 ow2,us=us1++us2∧ow=ow1++ow2∧Cells S w outs cs us1 ow1∧Cells S w outs cs' us2 ow2
 |[],us,ow,h=>⟨[],us,[],ow,rfl,rfl,.nil,h⟩
 |c::cs,us,ow,h=>by
  simp only[List.cons_append] at h
  cases h with
  |d h t=>
   obtain⟨us1,us2,ow1,ow2,rfl,rfl,h1,h2⟩:=t.unapp
   exact⟨_::us1,us2,ow1,ow2,rfl,rfl,.d h h1,h2⟩
  |r h t=>
   obtain⟨us1,us2,ow1,ow2,rfl,rfl,h1,h2⟩:=t.unapp
   exact⟨_::us1,us2,_::ow1,ow2,rfl,rfl,.r h h1,h2⟩
  |o h h1' t=>
   obtain⟨us1,us2,ow1,ow2,rfl,rfl,h1,h2⟩:=t.unapp
   exact⟨_::us1,us2,ow1,ow2,rfl,rfl,.o h h1' h1,h2⟩
  |z h1' t=>
   obtain⟨us1,us2,ow1,ow2,rfl,rfl,h1,h2⟩:=t.unapp
   exact⟨_::us1,us2,ow1,ow2,rfl,rfl,.z h1' h1,h2⟩
def useO:List Cl→Nat→Bool
 |[],_=>false
 | .o j::l,i=>Nat.beq i j||useO l i
 |_::l,i=>useO l i
theorem useO_app {i:Nat}:∀(l l':List Cl),useO (l++l') i=(useO l i||useO l' i)
 |[],l'=>rfl
 | .o j::l,l'=>by simp[useO,useO_app l l',Bool.or_assoc]
 | .d _::l,l'=>by simp[useO,useO_app l l']
 | .r .. ::l,l'=>by simp[useO,useO_app l l']
 | .z::l,l'=>by simp[useO,useO_app l l']
theorem Cells.outs {S:Nat→Prop} {w:World} {outs outs':List Value} {cs:List Cl} {us ow:List Value} (h:Cells S w outs cs us ow):(∀i u,useO cs i=true→outs[i]?=some u→outs'[i]?=some u)→Cells S w outs' cs us ow:=by
 induction h with
 |nil=>intro _;exact .nil
 |d h _ ih=>intro ho;exact .d h (ih ho)
 |r h _ ih=>intro ho;exact .r h (ih ho)
 |o h h1 _ ih=>intro ho;exact .o (ho _ _ (by simp[useO]) h) h1 (ih fun i u hi=>ho i u (by simp[useO,hi]))
 |z h1 _ ih=>intro ho;exact .z h1 (ih ho)
def Dj (l:List Value):Prop:=l.Pairwise fun u v=>∀g,at1 u=some g→at1 v=some g→False
theorem Dj.perm {l l':List Value} (h:Dj l) (hp:l.Perm l'):Dj l':=(hp.pairwise_iff fun {a b} (h:∀g,at1 a=some g→at1 b=some g→False) g h1 h2=>h g h2 h1).1 h
theorem Dj.get {l:List Value} (h:Dj l) {i j:Nat} {u v:Value} {g:Nat} (hi:l[i]?=some u) (hj:l[j]?=some v) (hu:at1 u=some g) (hv:at1 v=some g):i=j:=by
 rcases Nat.lt_trichotomy i j with hlt|h'|hlt
 ·obtain⟨hi',rfl⟩:=List.getElem?_eq_some_iff.1 hi
  obtain⟨hj',rfl⟩:=List.getElem?_eq_some_iff.1 hj
  exact(List.pairwise_iff_getElem.1 h i j hi' hj' hlt g hu hv).elim
 ·exact h'
 ·obtain⟨hi',rfl⟩:=List.getElem?_eq_some_iff.1 hi
  obtain⟨hj',rfl⟩:=List.getElem?_eq_some_iff.1 hj
  exact(List.pairwise_iff_getElem.1 h j i hj' hi' hlt g hv hu).elim
structure Main where
 ok:World→Value→List Value→Prop
 mono:∀{w w':World} {v:Value} {us:List Value},(∀g,at1 v=some g→w'.heap[g]?=w.heap[g]?)→ok w v us→ok w' v us
 one:∀{w:World} {v:Value} {us:List Value},ok w v us→v.oneCell'=true
def ctA (M:Main) (cs:List Cl):Asrt where
 ok:=fun S w v outs=>∃main us own,v= .agg (main::own).toArray∧M.ok w main us∧Cells S w outs cs us own∧Dj (main::own)
 mono:=by
  rintro S S' w w' v us hS hw hb ⟨main,raw,own,rfl,h1,h2,h3⟩
  refine⟨main,raw,own,rfl,M.mono (fun g hg=>hb g ⟨main,by simp,hg⟩) h1,h2.mono hS hw fun u hu g hg=>hb g ⟨u,by simp[hu],hg⟩,h3⟩
 one:=by
  rintro S w fs us ⟨main,raw,own,h0,h1,_⟩
  cases h0
  simpa using M.one h1
theorem at_ct {main:Value} {own:List Value} {g:Nat}:At (.agg (main::own).toArray) g↔∃u∈main::own,at1 u=some g:=by
 simp[At]
def GhM (m m':List (Option Bk)):Prop:=∀(B:Fr) (w0:World) (N:Names) (S:Sets) (t:List V) (a:Act) (w:World),Sat B w0 N S t m a w→∃N' S',Sat B w0 N' S' t m' a w∧∀v u,RelV N S w v u→RelV N' S' w v u
theorem GhM.refl (m:List (Option Bk)):GhM m m:=fun _ _ N S _ _ _ hs=>⟨N,S,hs,fun _ _ h=>h⟩
theorem GhM.trans {m m1 m2:List (Option Bk)} (h:GhM m m1) (h':GhM m1 m2):GhM m m2:=fun B w0 N S t a w hs=>by
 obtain⟨N1,S1,h1,r1⟩:=h B w0 N S t a w hs
 obtain⟨N2,S2,h2,r2⟩:=h' B w0 N1 S1 t a w h1
 exact⟨N2,S2,h2,fun v u hv=>r2 v u (r1 v u hv)⟩
theorem GhM.gh {m m':List (Option Bk)} {t:List V} (h:GhM m m'):Gh ⟨t,m⟩ ⟨t,m'⟩:=fun B w0 N S a w hs=>by
 obtain⟨N',S',h1,_⟩:=h B w0 N S t a w hs
 exact⟨N',S',h1⟩
theorem Gh.refl (st:St):Gh st st:=fun _ _ N S _ _ hs=>⟨N,S,hs⟩
theorem ot_pre {P:Program} {o:Oper} {E:Operand→V} {m m1 m2:List (Option Bk)} {v:V} (h:GhM m m1) (h':OpTr P o E m1 v m2):OpTr P o E m v m2:=fun B w0 N S t a w hs hx=>by
 obtain⟨N1,S1,h1,r1⟩:=h B w0 N S t a w hs
 exact h' B w0 N1 S1 t a w h1 fun x hx'=>r1 _ _ (hx x hx')
theorem ot_post {P:Program} {o:Oper} {E:Operand→V} {m m1 m2:List (Option Bk)} {v:V} (h:OpTr P o E m v m1) (h':GhM m1 m2):OpTr P o E m v m2:=fun B w0 N S t a w hs hx Q=>by
 refine Oper.wp_mono' (h B w0 N S t a w hs hx Q) ?_
 rintro a' w' ⟨u,he,N',S',h2,hr⟩
 obtain⟨N2,S2,h3,r3⟩:=h' B w0 N' S' t a w' h2
 exact⟨u,he,N2,S2,h3,r3 _ _ hr⟩
theorem ot_rd {P:Program} {o:Oper} {E:Operand→V} {m:List (Option Bk)} {v:V} (h:OpRd P o E m v):OpTr P o E m v m:=fun B w0 N S t a w hs hx Q=>by
 refine Oper.wp_mono' (h B w0 N S t m a w hs (fun _ _ h=>h) hx Q) ?_
 rintro a' w' ⟨u,he,rfl,hr⟩
 exact⟨u,he,N,S,hs,hr⟩
section
variable {P:Program} {T:Tab} {B:Fr} {w0:World} {N:Names} {S:Sets} {t:List V} {m:List (Option Bk)} {a:Act} {w:World}
theorem agg_hdv {main:Value} {own:List Value}:hdv (.agg (main::own).toArray)=main:=by simp[hdv]
theorem ct_val (hs:Sat B w0 N S t m a w) {n k:Nat} {M:Main} {cs:List Cl} {outs:List V} (hm:m[n]?=some (some (.asr k (ctA M cs) outs))):
  ∃main us own uo,N n=some (k,.agg (main::own).toArray)∧RelL N S w outs uo∧M.ok w main us∧Cells (S false) w uo cs us own∧Dj (main::own):=by
 obtain⟨fs,uo,h1,h2,main,us,own,h3,h4,h5,h6⟩:=hs.blk n _ hm
 cases h3
 exact⟨main,us,own,uo,h1,h2,h4,h5,h6⟩
theorem RelD.up (hs:Sat B w0 N S t m a w) {f:Bool} {d:D} {u:Value} (h:RelD (S f) w d u):RelD (S false) w d u:=by
 cases f
 ·exact h
 ·exact h.mono (fun g hg=>(hs.fresh g hg).1) fun _ _=>rfl
theorem row_val (hs:Sat B w0 N S t m a w) {d k E sz:Nat} {f:Bool} {xs:List (List D)} (hm:m[d]?=some (some (.row k E sz f xs))):∃u,N d=some (k,u)∧RowOk (S false) w E sz xs u:=by
 obtain⟨u,us,h1,h2,h3,h4,h5,_⟩:=hs.blk d _ hm
 exact⟨u,h1,us,h2,h3,h4,fun i j x hx=>by
  obtain⟨u',e1,e2⟩:=h5 i j x hx
  exact⟨u',e1,RelD.up hs e2⟩⟩
theorem gh_open {n k d E sz:Nat} {M:Main} {cs1 cs2:List Cl} {xs:List (List D)} {outs:List V} (hm:m[n]?=some (some (.asr k (ctA M (cs1++ .r E sz xs::cs2)) outs))) (hd:m[d]?=some none):
  GhM m ((m.set n (some (.asr k (ctA M (cs1++ .o outs.length::cs2)) (outs++[.ow d 0])))).set d (some (.row 0 E sz false xs))):=by
 intro B w0 N S t a w hs
 obtain⟨main,us,own,uo,h1,h2,h3,h4,h5⟩:=ct_val hs hm
 obtain⟨us1,us2',ow1,ow2',rfl,rfl,c1,c2⟩:=h4.unapp
 obtain⟨u,us2,ow2,rfl,rfl,hr,c2⟩:=c2.r_inv
 have hND:N d=none:=hs.non d fun b hb=>by rw[hd] at hb;cases hb
 have hnd:n≠d:=by rintro rfl;rw[hm] at hd;cases hd
 have hnl:=lt_of_get hm
 have hdl:=lt_of_get hd
 obtain⟨A,cp,hu⟩:=hr.slice
 let N':Names:=fun j=>if j=n then some (k,.agg (main::(ow1++ow2)).toArray) else if j=d then some (0,u) else N j
 have hNn:N' n=some (k,.agg (main::(ow1++ow2)).toArray):=by simp[N']
 have hNd:N' d=some (0,u):=by simp[N',Ne.symm hnd]
 have hNo:∀j,¬(j=n∨j=d)→N' j=N j:=fun j hj=>by simp only[not_or] at hj;simp[N',hj.1,hj.2]
 have hNN:NLe N N':=by
  intro j x v h
  by_cases hj:j=n
  ·subst hj
   rw[h1] at h;cases h
   exact .inr (.inr ⟨_,_,k,rfl,hNn,.inr ⟨rfl,by simp⟩⟩)
  ·by_cases hj':j=d
   ·subst hj';rw[hND] at h;cases h
   ·exact .inl ((hNo j (by simp[hj,hj'])).trans h)
 have hdj:Dj (u::main::(ow1++ow2)):=h5.perm (by
  refine List.Perm.trans ?_ (List.Perm.swap ..)
  exact List.Perm.cons _ List.perm_middle)
 have hrow:RowOk (S false) w E sz xs u:=hr
 have main_:=hs.chg (w':=w) (N':=N') (m':=(m.set n (some (.asr k (ctA M (cs1++ .o outs.length::cs2)) (outs++[.ow d 0])))).set d (some (.row 0 E sz false xs))) (fun j=>j=n∨j=d) hNN hNo
  (fun j hj=>by simp only[not_or] at hj;rw[List.getElem?_set_ne (Ne.symm hj.2),List.getElem?_set_ne (Ne.symm hj.1)]) hs.low (Nat.le_refl _) (fun _ _ _=>rfl)
  (fun j x v g hj hv hg=>by
   have hin:At (.agg (main::(ow1++u::ow2)).toArray) g:=by
    rw[at_ct]
    rcases hj with rfl|rfl
    ·rw[hNn] at hv;cases hv
     obtain⟨v',hv',hg'⟩:=at_ct.1 hg
     refine⟨v',?_,hg'⟩
     simp only[List.mem_cons,List.mem_append] at hv'⊢
     rcases hv' with h|h|h<;>simp[h]
    ·rw[hNd] at hv;cases hv
     subst hu
     exact⟨_,by simp,hg⟩
   exact⟨(hs.own n _ _ g h1 hin).2,.inr ⟨n,_,_,.inl rfl,h1,hin⟩⟩)
  (fun j j' x x' v v' g hj hj' hv hv' hg hg'=>by
   have key:∀g,At (.agg (main::(ow1++ow2)).toArray) g→At u g→False:=by
    intro g ha hb
    obtain⟨q,hq,hqg⟩:=at_ct.1 ha
    obtain⟨i,hi⟩:=List.getElem?_of_mem hq
    have:=Dj.get hdj (i:=i+1) (j:=0) (by simpa using hi) rfl hqg (by rw[hu];rw[hu] at hb;exact hb)
    omega
   rcases hj with rfl|rfl<;>rcases hj' with rfl|rfl
   ·rfl
   ·rw[hNn] at hv;rw[hNd] at hv';cases hv;cases hv'
    exact(key g hg hg').elim
   ·rw[hNd] at hv;rw[hNn] at hv';cases hv;cases hv'
    exact(key g hg' hg).elim
   ·rfl)
  (fun j hj hb=>by
   rcases hj with rfl|rfl
   ·exact absurd (by rw[List.getElem?_set_ne (Ne.symm hnd),List.getElem?_set_self hnl]) (hb _)
   ·exact absurd (by rw[List.getElem?_set_self (by simpa using hdl)]) (hb _))
  (fun j og hj hst=>by
   rcases hj with rfl|rfl
   ·exact⟨_,_,hNn,.inl ⟨_,rfl⟩⟩
   ·obtain⟨_,x,v,h,_⟩:=hs.stay _ og hst
    rw[hND] at h;cases h)
  (fun j b hj hb hrel hrd hdat=>by
   rcases hj with rfl|rfl
   ·rw[List.getElem?_set_ne (Ne.symm hnd),List.getElem?_set_self hnl] at hb
    cases hb
    refine⟨_,uo++[u],hNn,⟨by simp[h2.1],fun i v hv=>?_⟩,main,us1++u::us2,ow1++ow2,rfl,h3,?_,(List.pairwise_cons.1 hdj).2⟩
    ·rw[List.getElem?_append] at hv
     split at hv
     ·rename_i hlt
      have:=hrel _ _ (h2.2 i v hv)
      have e:(uo++[u]).getD i undef=uo.getD i undef:=by
       simp only[List.getD_eq_getElem?_getD]
       rw[List.getElem?_append_left (by rw[←h2.1];exact hlt)]
      rw[e];exact this
     ·rename_i hge
      have hi:i=outs.length:=by
       have:=lt_of_get hv
       simp at this;omega
      subst hi
      simp at hv;subst hv
      have e:(uo++[u]).getD outs.length undef=u:=by
       simp only[List.getD_eq_getElem?_getD,h2.1]
       simp
      rw[e]
      exact .ow d 0 u (by rw[hu];rfl) ⟨0,u,hNd,Nat.le_refl _,fun _=>by rw[hu];rfl⟩
    ·have ho:∀(i:Nat) (u':Value),uo[i]?=some u'→(uo++[u])[i]?=some u':=fun i u' h=>by rw[List.getElem?_append_left (lt_of_get h)];exact h
     exact(c1.outs fun i u' _ h=>ho i u' h).app (.o (by rw[h2.1];simp) (by rw[hu];rfl) (c2.outs fun i u' _ h=>ho i u' h))
   ·rw[List.getElem?_set_self (by simpa using hdl)] at hb
    cases hb
    obtain⟨us',e1,e2,e3,e4⟩:=hrow
    exact⟨u,us',hNd,e1,e2,e3,e4,fun h=>by cases h⟩)
 exact⟨N',S,main_.1,main_.2⟩
theorem gh_close {n k d kd E sz:Nat} {f:Bool} {M:Main} {cs1 cs2:List Cl} {xs:List (List D)} {outs:List V} (hm:m[n]?=some (some (.asr k (ctA M (cs1++ .o outs.length::cs2)) (outs++[.ow d kd])))) (hd:m[d]?=some (some (.row kd E sz f xs)))
  (h1:useO cs1 outs.length=false) (h2:useO cs2 outs.length=false):
  GhM m ((m.set n (some (.asr k (ctA M (cs1++ .r E sz xs::cs2)) outs))).set d (some (.row (kd+1) E sz true []))):=by
 intro B w0 N S t a w hs
 obtain⟨main,us,own,uo,g1,g2,g3,g4,g5⟩:=ct_val hs hm
 obtain⟨u,hNd0,hrow⟩:=row_val hs hd
 obtain⟨us1,us2',ow1,ow2,rfl,rfl,c1,c2⟩:=g4.unapp
 obtain⟨uh,us2,rfl,hh,hh1,c2⟩:=c2.o_inv
 have hnd:n≠d:=by rintro rfl;rw[hm] at hd;cases hd
 have hnl:=lt_of_get hm
 have hdl:=lt_of_get hd
 obtain⟨A,cp,hu⟩:=hrow.slice
 obtain⟨uo1,ul,rfl⟩:∃uo1 ul,uo=uo1++[ul]:=by
  have:uo.length=outs.length+1:=by rw[←g2.1];simp
  refine⟨uo.take outs.length,uo.getD outs.length undef,?_⟩
  apply List.ext_getElem?
  intro i
  rw[List.getElem?_append]
  simp only[List.length_take,List.getElem?_take,List.getD_eq_getElem?_getD]
  split
  ·rw[if_pos (by omega)]
  ·rename_i hge
   rcases Nat.lt_or_ge i (outs.length+1) with h|h
   ·have:i=outs.length:=by omega
    subst this
    rw[show outs.length - min outs.length uo.length=0 by omega]
    simp[List.getElem?_eq_getElem (show outs.length<uo.length by omega)]
   ·rw[List.getElem?_eq_none (by omega),List.getElem?_eq_none (by simp;omega)]
 have hl1:uo1.length=outs.length:=by have:=g2.1;simp at this;omega
 obtain rfl:uh=ul:=by rw[←hl1] at hh;simpa using hh.symm
 have hval:uh=u:=by
  have:=g2.2 outs.length (.ow d kd) (by simp)
  have e:(uo1++[uh]).getD outs.length undef=uh:=by
   simp only[List.getD_eq_getElem?_getD,←hl1]
   simp
  rw[e] at this
  cases this with
  |ow _ _ _ _ hn=>
   obtain⟨k',v,e1,_,e3⟩:=hn
   rw[hNd0] at e1;cases e1
   rw[e3 rfl,hu];rfl
 subst hval
 let N':Names:=fun j=>if j=n then some (k,.agg (main::(ow1++uh::ow2)).toArray) else if j=d then some (kd+1,.slice none 0 0) else N j
 have hNn:N' n=some (k,.agg (main::(ow1++uh::ow2)).toArray):=by simp[N']
 have hNd:N' d=some (kd+1,.slice none 0 0):=by simp[N',Ne.symm hnd]
 have hNo:∀j,¬(j=n∨j=d)→N' j=N j:=fun j hj=>by simp only[not_or] at hj;simp[N',hj.1,hj.2]
 have hNN:NLe N N':=by
  intro j x v h
  by_cases hj:j=n
  ·subst hj
   rw[g1] at h;cases h
   exact .inr (.inr ⟨_,_,k,rfl,hNn,.inr ⟨rfl,by simp⟩⟩)
  ·by_cases hj':j=d
   ·subst hj';rw[hNd0] at h;cases h
    exact .inr (.inl ⟨⟨_,_,_,hu⟩,_,_,hNd,by omega⟩)
   ·exact .inl ((hNo j (by simp[hj,hj'])).trans h)
 have hd0:∀g,at1 (.slice none 0 0)=some g→False:=fun g h=>by cases h
 have hdj:Dj (main::(ow1++uh::ow2)):=by
  have h3:Dj (uh::main::(ow1++ow2)):=by
   refine List.pairwise_cons.2 ⟨fun v hv g e1 e2=>?_,g5⟩
   have:=hs.apart d n _ _ _ _ g hNd0 g1 (by rw[hu];rw[hu] at e1;exact e1) (at_ct.2 ⟨v,hv,e2⟩)
   exact hnd this.symm
  exact h3.perm (by
   refine List.Perm.trans (List.Perm.swap ..) ?_
   exact List.Perm.cons _ List.perm_middle.symm)
 have main_:=hs.chg (w':=w) (N':=N') (m':=(m.set n (some (.asr k (ctA M (cs1++ .r E sz xs::cs2)) outs))).set d (some (.row (kd+1) E sz true []))) (fun j=>j=n∨j=d) hNN hNo
  (fun j hj=>by simp only[not_or] at hj;rw[List.getElem?_set_ne (Ne.symm hj.2),List.getElem?_set_ne (Ne.symm hj.1)]) hs.low (Nat.le_refl _) (fun _ _ _=>rfl)
  (fun j x v g hj hv hg=>by
   rcases hj with rfl|rfl
   ·rw[hNn] at hv;cases hv
    obtain⟨v',hv',hg'⟩:=at_ct.1 hg
    simp only[List.mem_cons,List.mem_append] at hv'
    have hcase:(v'=uh)∨v'∈main::(ow1++ow2):=by
     rcases hv' with h|h|h|h<;>simp[h]
    rcases hcase with rfl|h
    ·have hA:At v' g:=by rw[hu];rw[hu] at hg';exact hg'
     exact⟨(hs.own d _ _ g hNd0 hA).2,.inr ⟨d,_,_,.inr rfl,hNd0,hA⟩⟩
    ·have hA:=at_ct.2 ⟨v',h,hg'⟩
     exact⟨(hs.own _ _ _ g g1 hA).2,.inr ⟨_,_,_,.inl rfl,g1,hA⟩⟩
   ·rw[hNd] at hv;cases hv
    exact(hd0 g hg).elim)
  (fun j j' x x' v v' g hj hj' hv hv' hg hg'=>by
   rcases hj with rfl|rfl<;>rcases hj' with rfl|rfl
   ·rfl
   ·rw[hNd] at hv';cases hv';exact(hd0 g hg').elim
   ·rw[hNd] at hv;cases hv;exact(hd0 g hg).elim
   ·rfl)
  (fun j hj hb=>by
   rcases hj with rfl|rfl
   ·exact absurd (by rw[List.getElem?_set_ne (Ne.symm hnd),List.getElem?_set_self hnl]) (hb _)
   ·exact absurd (by rw[List.getElem?_set_self (by simpa using hdl)]) (hb _))
  (fun j og hj hst=>by
   rcases hj with rfl|rfl
   ·exact⟨_,_,hNn,.inl ⟨_,rfl⟩⟩
   ·exact⟨_,_,hNd,.inr fun g hg=>(hd0 g hg).elim⟩)
  (fun j b hj hb hrel hrd hdat=>by
   rcases hj with rfl|rfl
   ·rw[List.getElem?_set_ne (Ne.symm hnd),List.getElem?_set_self hnl] at hb
    cases hb
    refine⟨_,uo1,hNn,⟨hl1.symm,fun i v hv=>?_⟩,main,us1++uh::us2,ow1++uh::ow2,rfl,g3,?_,hdj⟩
    ·have hlt:=lt_of_get hv
     have:=hrel _ _ (g2.2 i v (by rw[List.getElem?_append_left hlt];exact hv))
     have e:(uo1++[uh]).getD i undef=uo1.getD i undef:=by
      simp only[List.getD_eq_getElem?_getD]
      rw[List.getElem?_append_left (by rw[hl1];exact hlt)]
     rw[e] at this;exact this
    ·have ho:∀(i:Nat) (u':Value),i≠outs.length→(uo1++[uh])[i]?=some u'→uo1[i]?=some u':=fun i u' hi h=>by
      have:=lt_of_get h
      simp at this
      rw[List.getElem?_append_left (by omega)] at h;exact h
     exact(c1.outs fun i u' hi h=>ho i u' (by rintro rfl;rw[h1] at hi;cases hi) h).app (.r hrow (c2.outs fun i u' hi h=>ho i u' (by rintro rfl;rw[h2] at hi;cases hi) h))
   ·rw[List.getElem?_set_self (by simpa using hdl)] at hb
    cases hb
    obtain⟨us',e1,e2,e3,e4⟩:=hrow
    exact⟨.slice none 0 0,[],hNd,⟨by simp,.inl ⟨rfl,rfl⟩⟩,by simp,e3,fun i j d hd=>by simp at hd,fun _ g hg=>(hd0 g hg).elim⟩)
 exact⟨N',S,main_.1,main_.2⟩
theorem gh_drop {n k:Nat} {M:Main} {cs:List Cl} {outs:List V} {x:V} (hm:m[n]?=some (some (.asr k (ctA M cs) (outs++[x])))) (h1:useO cs outs.length=false):
  GhM m (m.set n (some (.asr k (ctA M cs) outs))):=by
 intro B w0 N S t a w hs
 obtain⟨main,us,own,uo,g1,g2,g3,g4,g5⟩:=ct_val hs hm
 have hnl:=lt_of_get hm
 have main_:=hs.chg (w':=w) (N':=N) (m':=m.set n (some (.asr k (ctA M cs) outs))) (fun j=>j=n) (NLe.refl _) (fun _ _=>rfl)
  (fun j hj=>by rw[List.getElem?_set_ne (Ne.symm hj)]) hs.low (Nat.le_refl _) (fun _ _ _=>rfl)
  (fun j x v g hj hv hg=>⟨(hs.own j x v g hv hg).2,.inr ⟨j,x,v,hj,hv,hg⟩⟩)
  (fun j j' x x' v v' g hj hj' _ _ _ _=>hj.trans hj'.symm)
  (fun j hj hb=>by
   subst hj
   exact absurd (List.getElem?_set_self hnl) (hb _))
  (fun j og hj hst=>by
   obtain⟨_,x,v,h,h'⟩:=hs.stay j og hst
   exact⟨x,v,h,h'⟩)
  (fun j b hj hb hrel hrd hdat=>by
   subst hj
   rw[List.getElem?_set_self hnl] at hb
   cases hb
   have hl:=g2.1
   simp at hl
   refine⟨_,uo.take outs.length,g1,⟨by simp;omega,fun i v hv=>?_⟩,main,us,own,rfl,g3,g4.outs fun i u hi h=>?_,g5⟩
   ·have hlt:=lt_of_get hv
    have:=g2.2 i v (by rw[List.getElem?_append_left hlt];exact hv)
    simpa[List.getD_eq_getElem?_getD,List.getElem?_take,hlt] using this
   ·have h3:=lt_of_get h
    have:i≠outs.length:=by rintro rfl;rw[h1] at hi;cases hi
    rw[List.getElem?_take,if_pos (by omega)];exact h)
 exact⟨N,S,main_.1,main_.2⟩
end
end Go.Proofs.YtjmabkpcahmnpaaGreatDoor
namespace Go.Proofs.YtjmabkpcahmnpaaGreatDoor
open Go.RowKit
def rowM (E sz n:Nat):Main where
 ok:=fun w v us=>w.ownsRow 0 E sz v n us
 mono:=fun {w w' v us} hb h=>by
  obtain⟨A,c,rfl⟩:=own_parts h
  exact ownsRow_mono h hb
 one:=fun h=>by obtain⟨A,c,rfl⟩:=own_parts h;rfl
abbrev rowC (E sz:Nat) (rs:List (List Cl)):Asrt:=ctA (rowM E sz rs.length) rs.flatten
theorem flat_at {α:Type} {xs:List (List α)} {sz i j:Nat} {d:α} (hx:∀x∈xs,x.length=sz) (h:(xs[i]?.bind fun x=>x[j]?)=some d):xs.flatten[i*sz+j]?=some d:=by
 induction xs generalizing i with
 |nil=>simp at h
 |cons x xs ih=>
  have hl:x.length=sz:=hx x (by simp)
  cases i with
  |zero=>
   simp only[List.getElem?_cons_zero,Option.bind_some] at h
   rw[List.flatten_cons,Nat.zero_mul,Nat.zero_add,List.getElem?_append_left (lt_of_get h)]
   exact h
  |succ i=>
   simp only[List.getElem?_cons_succ] at h
   rw[List.flatten_cons,List.getElem?_append_right (by rw[hl,Nat.succ_mul];omega)]
   rw[show(i+1)*sz+j - x.length=i*sz+j by rw[hl,Nat.succ_mul];omega]
   exact ih (fun x hx'=>hx x (by simp[hx'])) h
theorem flat_length {α:Type} {xs:List (List α)} {sz:Nat} (hx:∀x∈xs,x.length=sz):xs.flatten.length=xs.length*sz:=by
 induction xs with
 |nil=>simp
 |cons x xs ih=>simp[ih fun y hy=>hx y (by simp[hy]),hx x (by simp),Nat.succ_mul,Nat.add_comm]
def Cl.v (outs:List V):Cl→V
 | .d x=>x.v false
 | .o i=>outs.getD i .un
 | .r .. => .un
 | .z=> .un
section
variable {P:Program} {T:Tab} {B:Fr} {w0:World} {N:Names} {S:Sets} {t:List V} {m:List (Option Bk)} {a:Act} {w:World}
theorem ow_of {n k:Nat} {v u:Value} (h1:N n=some (k,v)) (h:RelV N S w (.ow n k) u):u=hdv v:=by
 cases h with
 |ow _ _ _ _ hn=>
  obtain⟨k',v',h2,_,h4⟩:=hn
  rw[h1] at h2;cases h2
  exact h4 rfl
theorem oq_of {n k sz i o:Nat} {v u:Value} (h1:N n=some (k,v)) (h:RelV N S w (.oq n k sz i o) u):∃b len cap,hdv v= .slice (some ⟨b,0,none⟩) len cap∧u= .pointer (some ⟨b,i*sz+o,none⟩):=by
 cases h with
 |oq _ _ _ _ _ _ _ hn=>
  obtain⟨k',v',h2,_,h4⟩:=hn
  rw[h1] at h2;cases h2
  exact h4 rfl
theorem Cells.at {outs:List V} {uo:List Value} {cs:List Cl} {us ow:List Value} (h:Cells (S false) w uo cs us ow) (ho:RelL N S w outs uo):∀{p:Nat} {c:Cl},cs[p]?=some c→∃u,us[p]?=some u∧RelV N S w (c.v outs) u:=by
 induction h with
 |nil=>intro p c h;simp at h
 |d h _ ih=>
  intro p c hp
  cases p with
  |zero=>simp at hp;subst hp;exact⟨_,rfl,.ofD (f:=false) h⟩
  |succ p=>exact ih (by simpa using hp)
 |r h _ ih=>
  intro p c hp
  cases p with
  |zero=>simp at hp;subst hp;exact⟨_,rfl,.un _⟩
  |succ p=>exact ih (by simpa using hp)
 |@o i u _ _ _ h h1 _ ih=>
  intro p c hp
  cases p with
  |zero=>
   simp at hp;subst hp
   refine⟨_,rfl,?_⟩
   have hlt:i<outs.length:=by rw[ho.1];exact lt_of_get h
   have:=ho.2 i _ (List.getElem?_eq_getElem hlt)
   have e:uo.getD i undef=u:=by simp[List.getD_eq_getElem?_getD,h]
   rw[e] at this
   simpa[Cl.v,List.getD_eq_getElem?_getD,List.getElem?_eq_getElem hlt] using this
  |succ p=>exact ih (by simpa using hp)
 |z h1 _ ih=>
  intro p c hp
  cases p with
  |zero=>simp at hp;subst hp;exact⟨_,rfl,.un _⟩
  |succ p=>exact ih (by simpa using hp)
theorem rowC_cells (hs:Sat B w0 N S t m a w) {n k E sz:Nat} {rs:List (List Cl)} {outs:List V} (hm:m[n]?=some (some (.asr k (rowC E sz rs) outs))) (h0:rs≠[]):
  ∃g cap cur own uo,N n=some (k,.agg (.slice (some ⟨g,0,none⟩) rs.length cap::own).toArray)∧w.heap[g]?=some (.cells cur E (0,0))∧rs.length≤cap∧cap≤maxLen∧cur.size=cap*sz∧RelL N S w outs uo∧
   Cells (S false) w uo rs.flatten (cur.toList.take (rs.length*sz)) own∧Dj (.slice (some ⟨g,0,none⟩) rs.length cap::own):=by
 obtain⟨main,us,own,uo,h1,h2,h3,h4,h5⟩:=ct_val hs hm
 rcases h3.2 with⟨_,h⟩|⟨g,cap,cur,rfl,_,e1,e2,e3,e4,rfl⟩
 ·exact absurd (List.eq_nil_of_length_eq_zero h) h0
 ·exact⟨g,cap,cur,own,uo,h1,e1,e2,e3,e4,h2,h4,h5⟩
theorem rd_ct_index (hT:TOk P T) {o:Oper} {E:Operand→V} {ty e n k Er sz:Nat} {x i:Operand} {q:IntKind} {j:Int} {rs:List (List Cl)} {outs:List V} {it ie:TI} (ho:o.op= .indexAddr ty x i) (hty:T ty=some it) (hkd:it.kd= .slice e) (hie:T e=some ie) (hsz:ie.size=sz)
  (hx:E x= .ow n k) (hi:E i= .cv (.int q j)) (hm:m[n]?=some (some (.asr k (rowC Er sz rs) outs))) (hj:0≤j) (hlt:j.toNat<rs.length):OpRd P o E m (.oq n k sz j.toNat 0):=by
 intro B w0 N S t m2 a w hs hup hr
 have hm2:=hup n _ hm
 obtain⟨g,cap,cur,own,uo,h1,_⟩:=rowC_cells hs hm2 (by rintro rfl;simp at hlt)
 have hx':=hr x (by rw[ho];simp[Op.operands])
 have hi':=hr i (by rw[ho];simp[Op.operands])
 rw[hx] at hx';rw[hi] at hi'
 generalize hu:a.eval x=u at hx'
 generalize hv:a.eval i=v at hi'
 cases hi'
 have hu2:=ow_of h1 hx'
 simp only[agg_hdv] at hu2
 subst hu2
 refine opOk_val (u:= .pointer (some ⟨g,j.toNat*sz,none⟩)) (w':=w) ?_ ⟨rfl,.oq n k sz _ 0 _ rfl ⟨k,_,h1,Nat.le_refl _,fun _=>⟨g,rs.length,cap,by simp[hdv],by simp⟩⟩⟩
 unfold execOp
 simp only[ho]
 refine run_v ?_
 rw[hu,hv]
 have hsl:=hT.kd_slice hty hkd
 have hc2:0≤j∧j<(rs.length:Int):=⟨hj,by omega⟩
 simp[Instr.indexAt,run_underlying hsl,asIntOf,hc2,hT.size hie,hsz,add_mk]
theorem rd_ct_len {o:Oper} {E:Operand→V} {ty e n k Er sz:Nat} {x:Operand} {rs:List (List Cl)} {outs:List V} (ho:o.op= .call {callee:= .builtin .len,args:= #[x],argTypes:= #[ty]}) (hty:P.underlying ty=some (.slice e))
  (hx:E x= .ow n k) (hm:m[n]?=some (some (.asr k (rowC Er sz rs) outs))):OpRd P o E m (.cv (.int .i64 ((rs.length:Nat):Int))):=by
 intro B w0 N S t m2 a w hs hup hr
 have hm2:=hup n _ hm
 obtain⟨main,us,own,uo,h1,_,h3,_⟩:=ct_val hs hm2
 have hx':=hr x (by rw[ho];simp[Op.operands,Call.operands])
 rw[hx] at hx'
 generalize hu:a.eval x=u at hx'
 have hu2:=ow_of h1 hx'
 simp only[agg_hdv] at hu2
 subst hu2
 obtain⟨A,c,rfl⟩:=own_parts h3
 refine opOk_val (u:= .int .i64 ((rs.length:Nat):Int)) (w':=w) ?_ ⟨rfl,.cv _⟩
 unfold execOp
 simp only[ho]
 simp[resolve,invoke,builtin,hu,Builtin.len_,run_underlying hty,goInt]
theorem rd_ct_load (hT:TOk P T) {o:Oper} {E:Operand→V} {ty n k Er sz j off:Nat} {x:Operand} {i:TI} {rs:List (List Cl)} {cells:List Cl} {outs:List V} {v:V} (ho:o.op= .load ty x) (hi:T ty=some i) (hx:E x= .oq n k sz j off) (hm:m[n]?=some (some (.asr k (rowC Er sz rs) outs)))
  (hrs:∀r∈rs,r.length=sz) (hj:rs[j]?=some cells) (hl:loadK i (cells.map (Cl.v outs)) off fun v'=>v'=v):OpRd P o E m v:=by
 intro B w0 N S t m2 a w hs hup hr
 have hm2:=hup n _ hm
 obtain⟨g,cap,cur,own,uo,h1,h2,h3,h4,h5,h6,h7,h8⟩:=rowC_cells hs hm2 (by rintro rfl;simp at hj)
 have hx':=hr x (by rw[ho];simp[Op.operands])
 rw[hx] at hx'
 generalize hu:a.eval x=u at hx'
 obtain⟨b,len,cp,e4,rfl⟩:=oq_of h1 hx'
 rw[agg_hdv] at e4
 cases e4
 obtain⟨u,v1,hrun,hrel,rfl⟩:=loadK_sound (P:=P) hT hi (cs:=cells.map (Cl.v outs)) (off:=off) (g:=g) (p:=j*sz) (N:=N) (S:=S) (w:=w) (fun q v hq=>by
  rw[List.getElem?_map,Option.map_eq_some_iff] at hq
  obtain⟨c,hc,rfl⟩:=hq
  obtain⟨u,hu1,hu2⟩:=h7.at h6 (flat_at (i:=j) (j:=q) hrs (by rw[hj];exact hc))
  refine⟨u,?_,hu2⟩
  rw[cell_of_row w g _ cur Er _ h2]
  rw[List.getElem?_take] at hu1
  split at hu1
  ·simpa using hu1
  ·cases hu1) hl
 refine opOk_val (u:=u) (w':=w) ?_ ⟨rfl,hrel⟩
 unfold execOp
 simp only[ho]
 refine run_v ?_
 rw[hu]
 simp[Instr.loadAt,Instr.sureAddr,hrun]
end
end Go.Proofs.YtjmabkpcahmnpaaGreatDoor
