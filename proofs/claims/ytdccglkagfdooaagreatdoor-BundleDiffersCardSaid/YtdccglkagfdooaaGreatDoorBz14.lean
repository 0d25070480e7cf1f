/- Texts joined by pack.py: XSy0 XSxE2 XSyDa XSxC0 XLx2 XBuD XLx3 XLxS -/
import Derived.Test.YtdccglkagfdooaaGreatDoorBz13
import Derived.Laws.StructEq
import Derived.Laws.IdiomStrings
import Derived.Laws.BytesArg
import Derived.Laws.Runes
import Derived.Shelf.Strings.Builder1
import Derived.Shelf.Strings.Builder2
import Derived.Shelf.Strings.OnBuilder
import Derived.Shelf.Small.Utf8
import Derived.Shelf.Small.Bits
import Derived.Shelf.Small.Strs
import Derived.Shelf.Strings.BuilderF
import Derived.Shelf.Utf8.RuneCount
import Derived.Shelf.Strconv.Atoi
import Derived.Shelf.Strconv.Itoa0
import Derived.Shelf.Strconv.Itoa1
import Derived.Shelf.LaysM
import Derived.Shelf.Strconv.Itoa2
import Derived.Shelf.Strconv.Itoa3
import Derived.Shelf.Strconv.AtoiErrFast
import Derived.Shelf.Strconv.ParseIntEmpty
import Derived.Shelf.Strconv.AtoiFail
import Derived.Shelf.Strconv.Clone
import Derived.Shelf.Strconv.SyntaxError
import Derived.Shelf.LaysC
import Derived.Shelf.Strconv.ToError
import Derived.Shelf.Strconv.Lower
import Derived.Shelf.Strconv.ParseUint10
import Derived.Shelf.Strconv.ParseUint10Empty
import Derived.Shelf.Strconv.ParseUint10Any
import Derived.Shelf.Strconv.ParseInt10
import Derived.Shelf.Strconv.AtoiLong
import Derived.Shelf.Strconv.AtoiInnerAll
import Derived.Shelf.Strconv.RangeError
import Derived.Shelf.Strconv.ToErrorRange
import Derived.Shelf.Strconv.AtoiAll
import Derived.Shelf.Strings.Search1
import Derived.Shelf.Strings.Search2
import Derived.Shelf.Strings.Search3
import Derived.Shelf.Strings.Count
import Derived.Shelf.Strings.Shaped
import Derived.Shelf.Strings.Prefix
import Derived.Shelf.Strings.Split
import Derived.Shelf.Strings.Runes
import Derived.Shelf.Strings.RuneCount
import Derived.Shelf.Bits.Mul64
import Derived.Shelf.Strings.Repeat
import Derived.Ground.Names2Prog
import Derived.Shelf.Slices.CompactS
import Derived.Shelf.Slices.Cells
import Derived.Test.YtdccglkagfdooaaGreatDoorChecked
set_option maxHeartbeats 4000000
set_option maxRecDepth 100000
namespace Go.Proofs.YtdccglkagfdooaaGreatDoor
structure Nd where
 kind:Int
 text:Bs
 val:Int
 keys:List Bs
 kids:List Int
structure Fc where
 name:Bs
 params:List Bs
 body:Int
structure Pg where
 nodes:List Nd
 funcs:List Fc
abbrev PRes (α:Type):=Except Int (α×List Tok×List Nd)
def offT (e:Int):List Tok→Int
 |t::_=>t.at_
 |[]=>e
def isTk (k:Int) (s:Bs):List Tok→Bool
 |t::_=>decide (t.kind=k)&&(t.text==s)
 |[]=>false
abbrev isSym (s:Bs) (r:List Tok):Bool:=isTk 5 s r
abbrev isWrd (s:Bs) (r:List Tok):Bool:=isTk 2 s r
def sLP:Bs:=[40]
def sRP:Bs:=[41]
def sLB:Bs:=[91]
def sRB:Bs:=[93]
def sLC:Bs:=[123]
def sRC:Bs:=[125]
def sCm:Bs:=[44]
def sCl:Bs:=[58]
def sSc:Bs:=[59]
def sEq1:Bs:=[61]
def sMi:Bs:=[45]
def wFunc:Bs:=[102,117,110,99]
def wLet:Bs:=[108,101,116]
def wIf:Bs:=[105,102]
def wElse:Bs:=[101,108,115,101]
def wWhile:Bs:=[119,104,105,108,101]
def wReturn:Bs:=[114,101,116,117,114,110]
def wAnd:Bs:=[97,110,100]
def wOr:Bs:=[111,114]
def wNot:Bs:=[110,111,116]
def wNull:Bs:=[110,117,108,108]
def wTrue:Bs:=[116,114,117,101]
def wFalse:Bs:=[102,97,108,115,101]
def opMul:List Bs:=[[42],[47],[37]]
def opAdd:List Bs:=[[43],[45]]
def opCmp:List Bs:=[[61,61],[33,61],[60],[60,61],[62],[62,61]]
def ndM (kind:Int) (text:Bs) (val:Int) (kids:List Int):Nd:=⟨kind,text,val,[],kids⟩
def addN (n:Nd) (r:List Tok) (ns:List Nd):PRes Int:= .ok ((ns.length:Int),r,ns++[n])
def mustT (e:Int) (k:Int) (s:Bs) (r:List Tok):Except Int (List Tok):=if isTk k s r then .ok r.tail else .error (offT e r)
def pKind:List Tok→Int
 |t::_=>t.kind
 |[]=>0
def pText:List Tok→Bs
 |t::_=>t.text
 |[]=>[]
def mustK (e:Int) (k:Int) (r:List Tok):Except Int (Bs×List Tok):=if pKind r=k∧r≠[] then .ok (pText r,r.tail) else .error (offT e r)
abbrev Pars:=List Tok→List Nd→PRes Int
def listF (e:Int) (fin:Bs) (E:Pars):Nat→List Int→List Tok→List Nd→PRes (List Int)
 |0,_,r,_=> .error (offT e r)
 |f+1,l,r,ns=>match E r ns with
  | .error o=> .error o
  | .ok (i,r1,ns1)=>
   if isSym fin r1 then .ok (l++[i],r1.tail,ns1)
   else if isSym sCm r1 then listF e fin E f (l++[i]) r1.tail ns1
   else .error (offT e r1)
def listP (e:Int) (fin:Bs) (E:Pars) (r:List Tok) (ns:List Nd):PRes (List Int):=
 if isSym fin r then .ok ([],r.tail,ns) else listF e fin E r.length [] r ns
def keyF (e:Int) (E:Pars):Nat→List Bs→List Int→List Tok→List Nd→PRes Int
 |0,_,_,r,_=> .error (offT e r)
 |f+1,ks,l,r,ns=>
  if pKind r=4∧r≠[]∧(ks=[]∨Op.bytesLess (ks.getLastD []) (pText r)=true) then
   (match mustT e 5 sCl r.tail with
   | .error o=> .error o
   | .ok r1=>match E r1 ns with
    | .error o=> .error o
    | .ok (i,r2,ns2)=>
     if isSym sRC r2 then addN ⟨7,[],0,ks++[pText r],l++[i]⟩ r2.tail ns2
     else if isSym sCm r2 then keyF e E f (ks++[pText r]) (l++[i]) r2.tail ns2
     else .error (offT e r2))
  else .error (offT e r)
def keyP (e:Int) (E:Pars) (r:List Tok) (ns:List Nd):PRes Int:=
 if isSym sRC r then addN ⟨7,[],0,[],[]⟩ r.tail ns else keyF e E r.length [] [] r ns
def primP (e:Int) (E:Pars) (r:List Tok) (ns:List Nd):PRes Int:=
 match r with
 |[]=> .error e
 |t::r1=>
  if t.kind=3 then addN (ndM 3 [] t.val []) r1 ns
  else if t.kind=4 then addN (ndM 4 t.text 0 []) r1 ns
  else if isWrd wNull r then addN (ndM 1 [] 0 []) r1 ns
  else if isWrd wTrue r then addN (ndM 2 [] 1 []) r1 ns
  else if isWrd wFalse r then addN (ndM 2 [] 0 []) r1 ns
  else if t.kind=1 then
   (if isSym sLP r1 then(match listP e sRP E r1.tail ns with
    | .error o=> .error o
    | .ok (l,r2,ns2)=>addN (ndM 11 t.text 0 l) r2 ns2)
   else addN (ndM 5 t.text 0 []) r1 ns)
  else if t.kind=6 then
   (match mustT e 5 sLP r1 with
   | .error o=> .error o
   | .ok r2=>match listP e sRP E r2 ns with
    | .error o=> .error o
    | .ok (l,r3,ns3)=>addN (ndM 12 t.text 0 l) r3 ns3)
  else if isSym sLB r then
   (match listP e sRB E r1 ns with
   | .error o=> .error o
   | .ok (l,r2,ns2)=>addN (ndM 6 [] 0 l) r2 ns2)
  else if isSym sLC r then keyP e E r1 ns
  else if isSym sLP r then
   (match E r1 ns with
   | .error o=> .error o
   | .ok (i,r2,ns2)=>match mustT e 5 sRP r2 with
    | .error o=> .error o
    | .ok r3=> .ok (i,r3,ns2))
  else .error t.at_
def postF (e:Int) (E:Pars):Nat→Int→List Tok→List Nd→PRes Int
 |0,i,r,ns=> .ok (i,r,ns)
 |f+1,i,r,ns=>
  if isSym sLB r then
   (match E r.tail ns with
   | .error o=> .error o
   | .ok (k,r1,ns1)=>match mustT e 5 sRB r1 with
    | .error o=> .error o
    | .ok r2=>postF e E f (ns1.length:Int) r2 (ns1++[ndM 10 [] 0 [i,k]]))
  else .ok (i,r,ns)
def postP (e:Int) (E:Pars) (r:List Tok) (ns:List Nd):PRes Int:=
 match primP e E r ns with
 | .error o=> .error o
 | .ok (i,r1,ns1)=>postF e E r1.length i r1 ns1
def unaryP (e:Int) (E:Pars):List Tok→List Nd→PRes Int
 |[],ns=>postP e E [] ns
 |t::r1,ns=>
  if isSym sMi (t::r1) then
   (match unaryP e E r1 ns with
   | .error o=> .error o
   | .ok (i,r2,ns2)=>addN (ndM 8 sMi 0 [i]) r2 ns2)
  else postP e E (t::r1) ns
def chainF (k:Int) (ops:List Bs) (O:Pars):Nat→Int→List Tok→List Nd→PRes Int
 |0,i,r,ns=> .ok (i,r,ns)
 |f+1,i,r,ns=>
  if pKind r=k∧ops.contains (pText r)=true∧r≠[] then
   (match O r.tail ns with
   | .error o=> .error o
   | .ok (j,r1,ns1)=>chainF k ops O f (ns1.length:Int) r1 (ns1++[ndM 9 (pText r) 0 [i,j]]))
  else .ok (i,r,ns)
def chainP (k:Int) (ops:List Bs) (O:Pars) (r:List Tok) (ns:List Nd):PRes Int:=
 match O r ns with
 | .error o=> .error o
 | .ok (i,r1,ns1)=>chainF k ops O r1.length i r1 ns1
def termP (e:Int) (E:Pars):Pars:=chainP 5 opMul (unaryP e E)
def sumP (e:Int) (E:Pars):Pars:=chainP 5 opAdd (termP e E)
def cmpP (e:Int) (E:Pars) (r:List Tok) (ns:List Nd):PRes Int:=
 match sumP e E r ns with
 | .error o=> .error o
 | .ok (i,r1,ns1)=>
  if pKind r1=5∧opCmp.contains (pText r1)=true∧r1≠[] then
   (match sumP e E r1.tail ns1 with
   | .error o=> .error o
   | .ok (j,r2,ns2)=>addN (ndM 9 (pText r1) 0 [i,j]) r2 ns2)
  else .ok (i,r1,ns1)
def notP (e:Int) (E:Pars):List Tok→List Nd→PRes Int
 |[],ns=>cmpP e E [] ns
 |t::r1,ns=>
  if isWrd wNot (t::r1) then
   (match notP e E r1 ns with
   | .error o=> .error o
   | .ok (i,r2,ns2)=>addN (ndM 8 wNot 0 [i]) r2 ns2)
  else cmpP e E (t::r1) ns
def andP (e:Int) (E:Pars):Pars:=chainP 2 [wAnd] (notP e E)
def orP (e:Int) (E:Pars):Pars:=chainP 2 [wOr] (andP e E)
def exprP (e:Int):Nat→Pars
 |0=>fun r _=> .error (offT e r)
 |f+1=>orP e (exprP e f)
def valueP (e:Int) (f:Nat) (kind:Int) (text:Bs) (r:List Tok) (ns:List Nd):PRes Int:=
 match exprP e f r ns with
 | .error o=> .error o
 | .ok (i,r1,ns1)=>match mustT e 5 sSc r1 with
  | .error o=> .error o
  | .ok r2=>addN (ndM kind text 0 [i]) r2 ns1
def assigns:List Tok→Bool
 |t::r=>decide (t.kind=1)&&isSym sEq1 r
 |[]=>false
def stmtP (e:Int) (f:Nat) (Bl:Pars) (r:List Tok) (ns:List Nd):PRes Int:=
 if isWrd wLet r then
  (match mustK e 1 r.tail with
  | .error o=> .error o
  | .ok (s,r1)=>match mustT e 5 sEq1 r1 with
   | .error o=> .error o
   | .ok r2=>valueP e f 13 s r2 ns)
 else if isWrd wIf r then
  (match exprP e f r.tail ns with
  | .error o=> .error o
  | .ok (c,r1,ns1)=>match Bl r1 ns1 with
   | .error o=> .error o
   | .ok (b,r2,ns2)=>
    if isWrd wElse r2 then
     (match Bl r2.tail ns2 with
     | .error o=> .error o
     | .ok (b2,r3,ns3)=>addN (ndM 15 [] 0 [c,b,b2]) r3 ns3)
    else addN (ndM 15 [] 0 [c,b]) r2 ns2)
 else if isWrd wWhile r then
  (match exprP e f r.tail ns with
  | .error o=> .error o
  | .ok (c,r1,ns1)=>match Bl r1 ns1 with
   | .error o=> .error o
   | .ok (b,r2,ns2)=>addN (ndM 16 [] 0 [c,b]) r2 ns2)
 else if isWrd wReturn r then valueP e f 17 [] r.tail ns
 else if assigns r then valueP e f 14 (pText r) r.tail.tail ns
 else valueP e f 18 [] r ns
def stmtsF (e:Int) (S:Pars):Nat→List Int→List Tok→List Nd→PRes Int
 |0,_,r,_=> .error (offT e r)
 |g+1,l,r,ns=>
  if isSym sRC r then addN (ndM 19 [] 0 l) r.tail ns
  else match S r ns with
   | .error o=> .error o
   | .ok (i,r1,ns1)=>stmtsF e S g (l++[i]) r1 ns1
def blockP (e:Int):Nat→Pars
 |0=>fun r _=> .error (offT e r)
 |f+1=>fun r ns=>match mustT e 5 sLC r with
  | .error o=> .error o
  | .ok r1=>stmtsF e (stmtP e (f+1) (blockP e f)) (r1.length+1) [] r1 ns
def parF (e:Int):Nat→List Bs→List Tok→Except Int (List Bs×List Tok)
 |0,_,r=> .error (offT e r)
 |f+1,l,r=>match mustK e 1 r with
  | .error o=> .error o
  | .ok (s,r1)=>
   if isSym sRP r1 then .ok (l++[s],r1.tail)
   else if isSym sCm r1 then parF e f (l++[s]) r1.tail
   else .error (offT e r1)
def parP (e:Int) (r:List Tok):Except Int (List Bs×List Tok):=if isSym sRP r then .ok ([],r.tail) else parF e r.length [] r
def funcP (e:Int) (f:Nat) (r:List Tok) (ns:List Nd):Except Int (Fc×List Tok×List Nd):=
 match mustT e 2 wFunc r with
 | .error o=> .error o
 | .ok r1=>match mustK e 1 r1 with
  | .error o=> .error o
  | .ok (s,r2)=>match mustT e 5 sLP r2 with
   | .error o=> .error o
   | .ok r3=>match parP e r3 with
    | .error o=> .error o
    | .ok (ps,r4)=>match blockP e f r4 ns with
     | .error o=> .error o
     | .ok (b,r5,ns5)=> .ok (⟨s,ps,b⟩,r5,ns5)
def progF (e:Int) (f:Nat):Nat→List Fc→List Tok→List Nd→Except Int Pg
 |0,fs,_,ns=> .ok ⟨ns,fs⟩
 |g+1,fs,r,ns=>
  if r=[] then .ok ⟨ns,fs⟩
  else match funcP e f r ns with
   | .error o=> .error o
   | .ok (x,r1,ns1)=>progF e f g (fs++[x]) r1 ns1
def progP (e:Int) (r:List Tok):Except Int Pg:=progF e (r.length+1) r.length [] r []
end Go.Proofs.YtdccglkagfdooaaGreatDoor
namespace Go.Proofs.YtdccglkagfdooaaGreatDoor
open Go.RowKit
end Go.Proofs.YtdccglkagfdooaaGreatDoor
namespace Go.Proofs.YtdccglkagfdooaaGreatDoor
open Go.RowKit
def intD (n:Int):List D:=[.cv (.int .i64 n)]
abbrev intsV (l:List Int):V:= .sl true 1 (l.map intD)
def ndD (n:Nd):List D:=[.cv (.int .i64 n.kind),.cv (.string (mk n.text)),.cv (.int .i64 n.val),.sl 1 (n.keys.map strD),.sl 1 (n.kids.map intD)]
def fcD (f:Fc):List D:=[.cv (.string (mk f.name)),.sl 1 (f.params.map strD),.cv (.int .i64 f.body)]
abbrev Nd.V (n:Nd):V:= .ag [int n.kind,bstr n.text,int n.val,strsV n.keys,intsV n.kids]
abbrev Fc.V (f:Fc):V:= .ag [bstr f.name,strsV f.params,int f.body]
abbrev Pg.V (p:Pg):V:= .ag [.sl true 5 (p.nodes.map ndD),.sl true 3 (p.funcs.map fcD)]
end Go.Proofs.YtdccglkagfdooaaGreatDoor
namespace Go.Proofs.YtdccglkagfdooaaGreatDoor
open Go.RowKit
def byteD (b:UInt8):List D:=[.cv (.int .u8 (b.toNat:Nat))]
section
variable {P:Program} {o:Oper} {E:Operand→V} {m:List (Option Bk)} {s d:TypeId} {x:Operand}
theorem ot_rune {k:IntKind} {n:Int} (ho:o.op= .convert s d x) (hx:E x= .cv (.int k n)) (hs:(P.underlying s).isSome=true) (hd:P.underlying d=some .string):OpTr P o E m (.cv (.string (Utf8.encode n))) m:=by
 intro B w0 N S t a w hsat hr
 have h:=hr x (by rw[ho];simp[Op.operands])
 rw[hx] at h
 generalize hu:a.eval x=u at h
 cases h
 refine opOk_val (u:= .string (Utf8.encode n)) (w':=w) ?_ ⟨N,S,hsat,.cv _⟩
 unfold execOp
 simp only[ho]
 refine run_v ?_
 rw[hu]
 exact run_convert_int_string w s d k n hs hd
theorem ot_string {n k et:Nat} {f:Bool} {l:List UInt8} {e:TypeId} (ho:o.op= .convert s d x) (hx:E x= .ow n k) (hm:m[n]?=some (some (.row k et 1 f (l.map byteD))))
  (hs:P.underlying s=some (.slice e)) (he:P.underlying e=some (.int .u8)) (hd:P.underlying d=some .string):OpTr P o E m (.cv (.string ⟨l.toArray⟩)) m:=by
 intro B w0 N S t a w hsat hr
 have h:=hr x (by rw[ho];simp[Op.operands])
 rw[hx] at h
 generalize hu:a.eval x=u at h
 cases h
 rename_i hu1 hn
 obtain⟨k',v,hn,hk,hv⟩:=hn
 obtain⟨rfl,h1,h2,h3⟩:=row_cells hsat hm hn
 obtain rfl:=hv rfl
 refine opOk_val (u:= .string ⟨l.toArray⟩) (w':=w) ?_ ⟨N,S,hsat,.cv _⟩
 unfold execOp
 simp only[ho]
 refine run_v ?_
 rw[hu]
 rcases h3 with⟨rfl,h3⟩|⟨g,cap,us,rfl,h4,h5,h6,h7,h8⟩
 ·have:l=[]:=by simpa using h3
  subst this
  exact run_convert_bytes_nil w s e hs he 0 0 d hd
 ·rw[List.length_map]
  refine run_convert_bytes_back w s d e ⟨g,0,none⟩ cap l hs he hd fun j hj=>?_
  obtain⟨h9,h10⟩:=h8 j 0 (.cv (.int .u8 (l[j].toNat:Nat))) (by simp[hj,byteD])
  rw[add_mk]
  have e1:us.getD (j*1+0) undef= .int .u8 (l[j].toNat:Nat):=by
   generalize us.getD (j*1+0) undef=z at h10
   cases h10;rfl
  rw[show 0+j=j*1+0 by omega]
  unfold World.cell?
  simp only[h4]
  rw[←e1]
  have h9':j<us.size:=by omega
  simp[Array.getD_eq_getD_getElem?,Array.getElem?_eq_getElem h9']
end
end Go.Proofs.YtdccglkagfdooaaGreatDoor
namespace Go.Proofs.YtdccglkagfdooaaGreatDoor
open Go.RowKit
abbrev u8 (c:UInt8):V:= .cv (.int .u8 (c.toNat:Nat))
theorem u8_eq (c d:UInt8):(c==d)=decide ((c.toNat:Int)=(d.toNat:Int)):=by
 rw[Bool.eq_iff_iff]
 simp only[beq_iff_eq,decide_eq_true_eq]
 rw[←UInt8.toNat_inj];omega
theorem u8_le (c d:UInt8):(decide (c≤d))=decide ((c.toNat:Int)≤(d.toNat:Int)):=by
 rw[Bool.eq_iff_iff]
 simp only[decide_eq_true_eq,UInt8.le_iff_toNat_le];omega
theorem u8_lt (c d:UInt8):(decide (c<d))=decide ((c.toNat:Int)<(d.toNat:Int)):=by
 rw[Bool.eq_iff_iff]
 simp only[decide_eq_true_eq,UInt8.lt_iff_toNat_lt];omega
theorem isHd_int (c:UInt8):isHd c=(decide ((97:Int)≤(c.toNat:Int))&&decide ((c.toNat:Int)≤122)||decide ((c.toNat:Int)=95)):=by
 unfold isHd;rw[u8_eq,u8_le,u8_le];rfl
theorem isDg_int (c:UInt8):isDg c=(decide ((48:Int)≤(c.toNat:Int))&&decide ((c.toNat:Int)≤57)):=by
 unfold isDg;rw[u8_le,u8_le];rfl
theorem isBl_int (c:UInt8):isBl c=(decide ((c.toNat:Int)=32)||decide ((c.toNat:Int)=9)||decide ((c.toNat:Int)=10)):=by
 unfold isBl;rw[u8_eq,u8_eq,u8_eq];rfl
theorem drop_cons {l:Bs} {n:Nat} (h:n<l.length):l.drop n=l[n]::l.drop (n+1):=List.drop_eq_getElem_cons h
theorem mk_at {l:Bs} {n:Nat} (h:n<l.length):(mk l)[((n:Nat):Int).toNat]?=some l[n]:=by rw[Int.toNat_natCast,mk_get,List.getElem?_eq_getElem h]
end Go.Proofs.YtdccglkagfdooaaGreatDoor
namespace Go.Proofs.YtdccglkagfdooaaGreatDoor
open Go.RowKit
def sumC (h:Int) (c:UInt8):Int:=IntKind.u64.wrap (IntKind.u64.wrap ((BitVec.ofInt IntKind.u64.bits h ^^^ BitVec.ofInt IntKind.u64.bits (IntKind.u64.wrap (c.toNat:Nat))).toNat:Nat)*1099511628211)
def sumB (s:Bs):Int:=s.foldl sumC 14695981039346656037
theorem wrap_u64 (n:Int):0≤IntKind.u64.wrap n∧IntKind.u64.wrap n<18446744073709551616:=by
 have e:IntKind.u64.wrap n=n % 18446744073709551616:=rfl
 rw[e];omega
theorem sumB_in (s:Bs):0≤sumB s∧sumB s<18446744073709551616:=by
 have h:∀(l:Bs) (x:Int),0≤x∧x<18446744073709551616→0≤l.foldl sumC x∧l.foldl sumC x<18446744073709551616:=by
  intro l
  induction l with
  |nil=>intro x h;exact h
  |cons c l ih=>intro x _;exact ih _ (wrap_u64 _)
 exact h s _ (by omega)
theorem x_hsum (s:Bs) (hs:s.length≤281474976710656):DCalls Tryz.prog 28 [bstr s] (.cv (.int .u64 (sumB s))):=by
 refine sx Tryz.func28 (by kernel_rfl) ?_
 conv=>whnf
 rw[mk_size]
 refine⟨[],Nat×Int,fun⟨k,h⟩=>[(3,.cv (.int .u64 h)),(7,int k)],fun _=>[],fun⟨k,h⟩=>k≤s.length∧(s.drop k).foldl sumC h=sumB s,fun x=>s.length - x.1,(0,14695981039346656037),⟨Nat.zero_le _,rfl⟩,?_,?_⟩
 ·refine⟨rfl,?_,?_⟩<;>repeat' (first|exact trivial|exact rfl|refine and_rfl ?_|refine and_two ?_ ?_)
 rintro⟨k,h⟩ ⟨b0,b1⟩
 conv=>whnf
 rintro(_|_) h1
 ·have h1:s.length≤k:=by simp at h1;omega
  rw[List.drop_eq_nil_of_le h1] at b1
  have b1:h=sumB s:=b1
  rw[←b1]
  (conv=>whnf)<;>rfl
 have h1:k<s.length:=by simp at h1;omega
 rw[List.drop_eq_getElem_cons h1,List.foldl_cons] at b1
 conv=>whnf
 refine⟨by omega,_,mk_at h1,?_⟩
 conv=>whnf
 refine⟨(k+1,sumC h s[k]),⟨h1,b1⟩,by dsimp only;omega,?_⟩
 refine⟨rfl,?_,?_⟩<;>repeat' (first|exact trivial|exact rfl|refine and_rfl ?_|refine and_val (wrap_succ (by omega)) ?_|refine and_two ?_ ?_)
end Go.Proofs.YtdccglkagfdooaaGreatDoor
namespace Go.Proofs.YtdccglkagfdooaaGreatDoor
open Go.RowKit
theorem skp_bl {c:UInt8} {l:Bs} (h:isBl c=true):skp false (c::l)=skp false l+1:=by simp[skp,h]
theorem skp_end {c:UInt8} {l:Bs} (h:isBl c=false) (h2:(c==47&&l.head? ==some 47)=false):skp false (c::l)=0:=by simp[skp,h,h2]
theorem skp_com {l:Bs} (h:l.head?=some 47):skp false (47::l)=skp true l+1:=by simp[skp,h,show isBl 47=false from rfl]
theorem skp_nl {l:Bs}:skp true (10::l)=skp false (10::l):=by simp[skp,show isBl 10=true from rfl]
theorem skp_in {c:UInt8} {l:Bs} (h:(c==10)=false):skp true (c::l)=skp true l+1:=by simp[skp,h]
end Go.Proofs.YtdccglkagfdooaaGreatDoor
namespace Go.Proofs
open Go.Shelf
def Tryz.lays156_ren:Go.Shelf.Ren:=⟨fun|156=>21|165=>30|166=>31|169=>32|240=>49|241=>50|276=>73|277=>74|n=>n,fun|31=>22|9=>9|3=>3|4=>4|0=>0|20=>20|72=>71|76=>75|70=>69|37=>67|75=>74|127=>98|164=>124|5=>5|80=>77|n=>n,fun|n=>n⟩
theorem Tryz.lays156:Go.Proofs.Lays.n156 Tryz.prog Tryz.lays156_ren:={
 mixed:=by kernel_rfl
 f156:=Tryz.func21.trans (congrArg some (by kernel_rfl))
 f165:=Tryz.func30.trans (congrArg some (by kernel_rfl))
 f166:=Tryz.func31.trans (congrArg some (by kernel_rfl))
 f169:=Tryz.func32.trans (congrArg some (by kernel_rfl))
 f240:=Tryz.func49.trans (congrArg some (by kernel_rfl))
 f241:=Tryz.func50.trans (congrArg some (by kernel_rfl))
 f276:=Tryz.func73.trans (congrArg some (by kernel_rfl))
 f277:=Tryz.func74.trans (congrArg some (by kernel_rfl))
 t0:=Tryz.underlying0
 a0:=Tryz.isAgg0
 z0:=Tryz.sizeOf0
 v0:=Tryz.zeroValue0
 t3:=Tryz.underlying3
 a3:=Tryz.isAgg3
 z3:=Tryz.sizeOf3
 v3:=Tryz.zeroValue3
 t4:=Tryz.underlying4
 a4:=Tryz.isAgg4
 z4:=Tryz.sizeOf4
 v4:=Tryz.zeroValue4
 t9:=Tryz.underlying9
 a9:=Tryz.isAgg9
 z9:=Tryz.sizeOf9
 v9:=Tryz.zeroValue9
 t20:=Tryz.underlying20
 a20:=Tryz.isAgg20
 z20:=Tryz.sizeOf20
 v20:=Tryz.zeroValue20
 t31:=Tryz.underlying22
 a31:=Tryz.isAgg22
 z31:=Tryz.sizeOf22
 v31:=Tryz.zeroValue22
 t37:=Tryz.underlying67
 a37:=Tryz.isAgg67
 z37:=Tryz.sizeOf67
 v37:=Tryz.zeroValue67
 t70:=Tryz.underlying69
 a70:=Tryz.isAgg69
 z70:=Tryz.sizeOf69
 v70:=Tryz.zeroValue69
 t72:=Tryz.underlying71
 a72:=Tryz.isAgg71
 z72:=Tryz.sizeOf71
 v72:=Tryz.zeroValue71
 t75:=Tryz.underlying74
 a75:=Tryz.isAgg74
 z75:=Tryz.sizeOf74
 v75:=Tryz.zeroValue74
 t76:=Tryz.underlying75
 a76:=Tryz.isAgg75
 z76:=Tryz.sizeOf75
 v76:=Tryz.zeroValue75
 t127:=Tryz.underlying98
 a127:=Tryz.isAgg98
 z127:=Tryz.sizeOf98
 v127:=Tryz.zeroValue98
 t164:=Tryz.underlying124
 a164:=Tryz.isAgg124
 z164:=Tryz.sizeOf124
 v164:=Tryz.zeroValue124}
theorem Tryz.Builder_Extra_156:Builder.Extra Tryz.prog Tryz.lays156_ren:={
 sizeBuilder:=by kernel_rfl
 liesBuilder:=by kernel_rfl
 t5:=Tryz.underlying5
 a5:=Tryz.isAgg5
 z5:=Tryz.sizeOf5
 v5:=Tryz.zeroValue5
 infoByte:=by kernel_rfl
 cellsByte:=by kernel_rfl
 sizeByte:=by kernel_rfl
 neB5:=by decide}
open Go.RowKit in
theorem Tryz.strings_Join_none (a:Option Addr) (c:Nat) (sep:ByteArray) (w:World):
  Calls Tryz.prog 21 #[.slice a 0 c,.string sep] w fun e w'=>e= .returned (.string ⟨#[]⟩)∧w'=w:=Any.strings_Join_none Tryz.lays156 Tryz.Builder_Extra_156 a c sep w
open Go.RowKit in
theorem Tryz.strings_Join (bk o c:Nat) (xs:List ByteArray) (sep:ByteArray) (w:World) (hcells:∀(j:Nat) x,xs[j]?=some x→w.cell? ⟨bk,o+j,none⟩=some (.string x)) (hbk:bk<w.heap.size) (hN:xs.length≤140737488355328) (hcap:xs.length≤c) (hlen:(Lib.join (xs.map (·.data.toList)) sep.data.toList).length≤140737488355328):
  Calls Tryz.prog 21 #[.slice (some ⟨bk,o,none⟩) xs.length c,.string sep] w fun e w'=>e= .returned (.string ⟨(Lib.join (xs.map (·.data.toList)) sep.data.toList).toArray⟩)∧Below w.heap.size w w':=Any.strings_Join Tryz.lays156 Tryz.Builder_Extra_156 bk o c xs sep w hcells hbk hN hcap hlen
def Tryz.lays137_ren:Go.Shelf.Ren:=⟨fun|137=>178|217=>111|266=>148|n=>n,fun|9=>9|5=>5|3=>3|n=>n,fun|n=>n⟩
theorem Tryz.lays137:Go.Proofs.Lays.n137 Tryz.prog Tryz.lays137_ren:={
 mixed:=by kernel_rfl
 f137:=Tryz.func178.trans (congrArg some (by kernel_rfl))
 f217:=Tryz.func111.trans (congrArg some (by kernel_rfl))
 f266:=Tryz.func148.trans (congrArg some (by kernel_rfl))
 t3:=Tryz.underlying3
 a3:=Tryz.isAgg3
 z3:=Tryz.sizeOf3
 v3:=Tryz.zeroValue3
 t5:=Tryz.underlying5
 a5:=Tryz.isAgg5
 z5:=Tryz.sizeOf5
 v5:=Tryz.zeroValue5
 t9:=Tryz.underlying9
 a9:=Tryz.isAgg9
 z9:=Tryz.sizeOf9
 v9:=Tryz.zeroValue9}
open Go.RowKit in
theorem Tryz.strings_IndexByte (s:ByteArray) (c:Int) (w:World):
  Calls Tryz.prog 178 #[.string s,.int .u8 c] w fun e w'=>e= .returned (.int .i64 (Lib.indexByte s.data.toList c.toNat.toUInt8))∧w'=w:=Any.strings_IndexByte Tryz.lays137 s c w
def Tryz.laysM171_ren:Go.Shelf.Ren:=⟨fun|171=>29|243=>48|246=>72|283=>100|284=>101|285=>102|286=>103|129=>142|317=>141|318=>143|319=>144|320=>145|337=>175|338=>176|n=>n,fun|3=>3|9=>9|2=>2|4=>4|171=>164|0=>0|53=>65|37=>67|5=>5|173=>167|212=>209|51=>169|20=>20|213=>210|46=>68|232=>253|233=>254|n=>n,fun|17=>4|18=>7|19=>8|n=>n⟩
theorem Tryz.laysM171:Go.Proofs.LaysM.n171 Tryz.prog Tryz.laysM171_ren:={
 mixed:=by kernel_rfl
 f129:=Tryz.func142.trans (congrArg some (by kernel_rfl))
 f171:=Tryz.func29.trans (congrArg some (by kernel_rfl))
 f243:=Tryz.func48.trans (congrArg some (by kernel_rfl))
 f246:=Tryz.func72.trans (congrArg some (by kernel_rfl))
 f283:=Tryz.func100.trans (congrArg some (by kernel_rfl))
 f284:=Tryz.func101.trans (congrArg some (by kernel_rfl))
 f285:=Tryz.func102.trans (congrArg some (by kernel_rfl))
 f286:=Tryz.func103.trans (congrArg some (by kernel_rfl))
 f317:=Tryz.func141.trans (congrArg some (by kernel_rfl))
 f318:=Tryz.func143.trans (congrArg some (by kernel_rfl))
 f319:=Tryz.func144.trans (congrArg some (by kernel_rfl))
 f320:=Tryz.func145.trans (congrArg some (by kernel_rfl))
 f337:=Tryz.func175.trans (congrArg some (by kernel_rfl))
 f338:=Tryz.func176.trans (congrArg some (by kernel_rfl))
 t0:=Tryz.underlying0
 a0:=Tryz.isAgg0
 z0:=Tryz.sizeOf0
 v0:=Tryz.zeroValue0
 t2:=Tryz.underlying2
 a2:=Tryz.isAgg2
 z2:=Tryz.sizeOf2
 v2:=Tryz.zeroValue2
 t3:=Tryz.underlying3
 a3:=Tryz.isAgg3
 z3:=Tryz.sizeOf3
 v3:=Tryz.zeroValue3
 t4:=Tryz.underlying4
 a4:=Tryz.isAgg4
 z4:=Tryz.sizeOf4
 v4:=Tryz.zeroValue4
 t5:=Tryz.underlying5
 a5:=Tryz.isAgg5
 z5:=Tryz.sizeOf5
 v5:=Tryz.zeroValue5
 t9:=Tryz.underlying9
 a9:=Tryz.isAgg9
 z9:=Tryz.sizeOf9
 v9:=Tryz.zeroValue9
 t20:=Tryz.underlying20
 a20:=Tryz.isAgg20
 z20:=Tryz.sizeOf20
 v20:=Tryz.zeroValue20
 t37:=Tryz.underlying67
 a37:=Tryz.isAgg67
 z37:=Tryz.sizeOf67
 v37:=Tryz.zeroValue67
 t46:=Tryz.underlying68
 a46:=Tryz.isAgg68
 z46:=Tryz.sizeOf68
 v46:=Tryz.zeroValue68
 t51:=Tryz.underlying169
 a51:=Tryz.isAgg169
 z51:=Tryz.sizeOf169
 v51:=Tryz.zeroValue169
 t53:=Tryz.underlying65
 a53:=Tryz.isAgg65
 z53:=Tryz.sizeOf65
 v53:=Tryz.zeroValue65
 t171:=Tryz.underlying164
 a171:=Tryz.isAgg164
 z171:=Tryz.sizeOf164
 v171:=Tryz.zeroValue164
 t173:=Tryz.underlying167
 a173:=Tryz.isAgg167
 z173:=Tryz.sizeOf167
 v173:=Tryz.zeroValue167
 t212:=Tryz.underlying209
 a212:=Tryz.isAgg209
 z212:=Tryz.sizeOf209
 v212:=Tryz.zeroValue209
 t213:=Tryz.underlying210
 a213:=Tryz.isAgg210
 z213:=Tryz.sizeOf210
 t232:=Tryz.underlying253
 a232:=Tryz.isAgg253
 z232:=Tryz.sizeOf253
 v232:=Tryz.zeroValue253
 t233:=Tryz.underlying254
 a233:=Tryz.isAgg254
 z233:=Tryz.sizeOf254
 v233:=Tryz.zeroValue254
 g17:=by kernel_rfl
 g18:=by kernel_rfl
 g19:=by kernel_rfl
 i0:=by kernel_rfl
 i2:=by kernel_rfl
 i3:=by kernel_rfl
 i4:=by kernel_rfl
 i5:=by kernel_rfl
 i9:=by kernel_rfl
 i20:=by kernel_rfl
 i37:=by kernel_rfl
 i46:=by kernel_rfl
 i51:=by kernel_rfl
 i53:=by kernel_rfl
 i171:=by kernel_rfl
 i173:=by kernel_rfl
 i212:=by kernel_rfl
 i232:=by kernel_rfl
 i233:=by kernel_rfl
 m17:=by kernel_rfl
 m18:=by kernel_rfl
 m19:=by kernel_rfl}
open Go.RowKit Go.Sort Go.Lib in
theorem Tryz.strconv_Itoa (n:Int) (h0: -9223372036854775808≤n) (h1:n≤9223372036854775807) (w:World) (htab:Lib.TabIs Tryz.prog w "internal/strconv.uint64pow10" .u64 Lib.pow10Tab):
  Calls Tryz.prog 29 #[.int .i64 n] w fun e w'=>e= .returned (.string ⟨(Lib.itoa n).toArray⟩)∧∃k os,w'=grow (w.drewN k) os:=Any.strconv_Itoa Tryz.laysM171 n h0 h1 w htab
def Tryz.laysC172_ren:Go.Shelf.Ren:=⟨fun|172=>34|244=>51|245=>52|247=>75|279=>76|280=>77|281=>78|282=>79|287=>107|316=>108|171=>29|205=>109|321=>146|322=>147|243=>48|246=>72|283=>100|284=>101|285=>102|286=>103|129=>142|317=>141|318=>143|319=>144|320=>145|337=>175|338=>176|n=>n,fun|9=>9|3=>3|75=>74|76=>75|4=>4|5=>5|167=>127|37=>67|0=>0|85=>128|2=>2|168=>130|53=>65|175=>174|46=>68|210=>178|127=>98|145=>215|143=>213|21=>21|171=>164|173=>167|212=>209|51=>169|20=>20|213=>210|232=>253|233=>254|80=>77|n=>n,fun|15=>1|16=>2|17=>4|18=>7|19=>8|n=>n⟩
theorem Tryz.laysC172:Go.Proofs.LaysC.n172 Tryz.prog Tryz.laysC172_ren:={
 mixed:=by kernel_rfl
 f129:=Tryz.func142.trans (congrArg some (by kernel_rfl))
 f171:=Tryz.func29.trans (congrArg some (by kernel_rfl))
 f172:=Tryz.func34.trans (congrArg some (by kernel_rfl))
 f205:=Tryz.func109.trans (congrArg some (by kernel_rfl))
 f243:=Tryz.func48.trans (congrArg some (by kernel_rfl))
 f244:=Tryz.func51.trans (congrArg some (by kernel_rfl))
 f245:=Tryz.func52.trans (congrArg some (by kernel_rfl))
 f246:=Tryz.func72.trans (congrArg some (by kernel_rfl))
 f247:=Tryz.func75.trans (congrArg some (by kernel_rfl))
 f279:=Tryz.func76.trans (congrArg some (by kernel_rfl))
 f280:=Tryz.func77.trans (congrArg some (by kernel_rfl))
 f281:=Tryz.func78.trans (congrArg some (by kernel_rfl))
 f282:=Tryz.func79.trans (congrArg some (by kernel_rfl))
 f283:=Tryz.func100.trans (congrArg some (by kernel_rfl))
 f284:=Tryz.func101.trans (congrArg some (by kernel_rfl))
 f285:=Tryz.func102.trans (congrArg some (by kernel_rfl))
 f286:=Tryz.func103.trans (congrArg some (by kernel_rfl))
 f287:=Tryz.func107.trans (congrArg some (by kernel_rfl))
 f316:=Tryz.func108.trans (congrArg some (by kernel_rfl))
 f317:=Tryz.func141.trans (congrArg some (by kernel_rfl))
 f318:=Tryz.func143.trans (congrArg some (by kernel_rfl))
 f319:=Tryz.func144.trans (congrArg some (by kernel_rfl))
 f320:=Tryz.func145.trans (congrArg some (by kernel_rfl))
 f321:=Tryz.func146.trans (congrArg some (by kernel_rfl))
 f322:=Tryz.func147.trans (congrArg some (by kernel_rfl))
 f337:=Tryz.func175.trans (congrArg some (by kernel_rfl))
 f338:=Tryz.func176.trans (congrArg some (by kernel_rfl))
 t0:=Tryz.underlying0
 a0:=Tryz.isAgg0
 z0:=Tryz.sizeOf0
 v0:=Tryz.zeroValue0
 t2:=Tryz.underlying2
 a2:=Tryz.isAgg2
 z2:=Tryz.sizeOf2
 v2:=Tryz.zeroValue2
 t3:=Tryz.underlying3
 a3:=Tryz.isAgg3
 z3:=Tryz.sizeOf3
 v3:=Tryz.zeroValue3
 t4:=Tryz.underlying4
 a4:=Tryz.isAgg4
 z4:=Tryz.sizeOf4
 v4:=Tryz.zeroValue4
 t5:=Tryz.underlying5
 a5:=Tryz.isAgg5
 z5:=Tryz.sizeOf5
 v5:=Tryz.zeroValue5
 t9:=Tryz.underlying9
 a9:=Tryz.isAgg9
 z9:=Tryz.sizeOf9
 v9:=Tryz.zeroValue9
 t20:=Tryz.underlying20
 a20:=Tryz.isAgg20
 z20:=Tryz.sizeOf20
 v20:=Tryz.zeroValue20
 t21:=Tryz.underlying21
 a21:=Tryz.isAgg21
 z21:=Tryz.sizeOf21
 v21:=Tryz.zeroValue21
 t37:=Tryz.underlying67
 a37:=Tryz.isAgg67
 z37:=Tryz.sizeOf67
 v37:=Tryz.zeroValue67
 t46:=Tryz.underlying68
 a46:=Tryz.isAgg68
 z46:=Tryz.sizeOf68
 v46:=Tryz.zeroValue68
 t51:=Tryz.underlying169
 a51:=Tryz.isAgg169
 z51:=Tryz.sizeOf169
 v51:=Tryz.zeroValue169
 t53:=Tryz.underlying65
 a53:=Tryz.isAgg65
 z53:=Tryz.sizeOf65
 v53:=Tryz.zeroValue65
 t75:=Tryz.underlying74
 a75:=Tryz.isAgg74
 z75:=Tryz.sizeOf74
 v75:=Tryz.zeroValue74
 t76:=Tryz.underlying75
 a76:=Tryz.isAgg75
 z76:=Tryz.sizeOf75
 v76:=Tryz.zeroValue75
 t85:=Tryz.underlying128
 a85:=Tryz.isAgg128
 z85:=Tryz.sizeOf128
 v85:=Tryz.zeroValue128
 t127:=Tryz.underlying98
 a127:=Tryz.isAgg98
 z127:=Tryz.sizeOf98
 v127:=Tryz.zeroValue98
 t143:=Tryz.underlying213
 a143:=Tryz.isAgg213
 z143:=Tryz.sizeOf213
 v143:=Tryz.zeroValue213
 t145:=Tryz.underlying215
 a145:=Tryz.isAgg215
 z145:=Tryz.sizeOf215
 v145:=Tryz.zeroValue215
 t167:=Tryz.underlying127
 a167:=Tryz.isAgg127
 z167:=Tryz.sizeOf127
 v167:=Tryz.zeroValue127
 t168:=Tryz.underlying130
 a168:=Tryz.isAgg130
 z168:=Tryz.sizeOf130
 v168:=Tryz.zeroValue130
 t171:=Tryz.underlying164
 a171:=Tryz.isAgg164
 z171:=Tryz.sizeOf164
 v171:=Tryz.zeroValue164
 t173:=Tryz.underlying167
 a173:=Tryz.isAgg167
 z173:=Tryz.sizeOf167
 v173:=Tryz.zeroValue167
 t175:=Tryz.underlying174
 a175:=Tryz.isAgg174
 z175:=Tryz.sizeOf174
 v175:=Tryz.zeroValue174
 t210:=Tryz.underlying178
 a210:=Tryz.isAgg178
 z210:=Tryz.sizeOf178
 v210:=Tryz.zeroValue178
 t212:=Tryz.underlying209
 a212:=Tryz.isAgg209
 z212:=Tryz.sizeOf209
 v212:=Tryz.zeroValue209
 t213:=Tryz.underlying210
 a213:=Tryz.isAgg210
 z213:=Tryz.sizeOf210
 t232:=Tryz.underlying253
 a232:=Tryz.isAgg253
 z232:=Tryz.sizeOf253
 v232:=Tryz.zeroValue253
 t233:=Tryz.underlying254
 a233:=Tryz.isAgg254
 z233:=Tryz.sizeOf254
 v233:=Tryz.zeroValue254
 g15:=by kernel_rfl
 g16:=by kernel_rfl
 g17:=by kernel_rfl
 g18:=by kernel_rfl
 g19:=by kernel_rfl
 t80:=Tryz.underlying77
 a80:=Tryz.isAgg77
 z80:=Tryz.sizeOf77
 v80:=Tryz.zeroValue77
 i0:=by kernel_rfl
 i2:=by kernel_rfl
 i3:=by kernel_rfl
 i4:=by kernel_rfl
 i5:=by kernel_rfl
 i9:=by kernel_rfl
 i20:=by kernel_rfl
 i21:=by kernel_rfl
 i37:=by kernel_rfl
 i46:=by kernel_rfl
 i51:=by kernel_rfl
 i53:=by kernel_rfl
 i75:=by kernel_rfl
 i76:=by kernel_rfl
 i80:=by kernel_rfl
 i85:=by kernel_rfl
 i127:=by kernel_rfl
 i143:=by kernel_rfl
 i145:=by kernel_rfl
 i167:=by kernel_rfl
 i168:=by kernel_rfl
 i171:=by kernel_rfl
 i173:=by kernel_rfl
 i175:=by kernel_rfl
 i210:=by kernel_rfl
 i212:=by kernel_rfl
 i232:=by kernel_rfl
 i233:=by kernel_rfl
 m15:=by kernel_rfl
 m16:=by kernel_rfl
 m17:=by kernel_rfl
 m18:=by kernel_rfl
 m19:=by kernel_rfl
 c0:=by kernel_rfl
 c2:=by kernel_rfl
 c3:=by kernel_rfl
 c4:=by kernel_rfl
 c5:=by kernel_rfl
 c9:=by kernel_rfl
 c20:=by kernel_rfl
 c21:=by kernel_rfl
 c37:=by kernel_rfl
 c46:=by kernel_rfl
 c51:=by kernel_rfl
 c53:=by kernel_rfl
 c75:=by kernel_rfl
 c76:=by kernel_rfl
 c80:=by kernel_rfl
 c85:=by kernel_rfl
 c127:=by kernel_rfl
 c143:=by kernel_rfl
 c145:=by kernel_rfl
 c167:=by kernel_rfl
 c168:=by kernel_rfl
 c171:=by kernel_rfl
 c173:=by kernel_rfl
 c175:=by kernel_rfl
 c210:=by kernel_rfl
 c212:=by kernel_rfl
 c213:=by kernel_rfl
 c232:=by kernel_rfl
 c233:=by kernel_rfl}
open Go.RowKit in
theorem Tryz.strconv_Atoi_ok (s:ByteArray) (hmax:s.size≤9223372036854775806) (v:Int) (h:Lib.atoiAll s.data.toList= .ok v) (w:World):
  Calls Tryz.prog 34 #[.string s] w fun e w'=>e= .returned (.tuple #[.int .i64 v,.nilIface])∧(w'=w∨∃t,w'=Lib.bytesWorld w 5 t):=Any.strconv_Atoi_ok Tryz.laysC172 s hmax v h w
open Go.RowKit in
theorem Tryz.strconv_Atoi_range (s:ByteArray) (hlim:s.size≤281474976710656) (h:Lib.atoiAll s.data.toList= .range) (ev:Value) (w:World) (hv:w.cell? ⟨2,0,none⟩=some ev) (hev:ev= .nilIface∨∃te pe,ev= .iface te pe):
  Calls Tryz.prog 34 #[.string s] w fun e w'=>∃N,e= .returned (.tuple #[.int .i64 (Lib.atoiSat s.data.toList),.iface 130 (.pointer (some ⟨N,0,none⟩))])∧w.heap.size≤N∧w'.heap[N]?=some (.cells #[.string ⟨#[65,116,111,105]⟩,.string s,ev] 178 (0,0))∧Below w.heap.size w w':=Any.strconv_Atoi_range Tryz.laysC172 s hlim h ev w hv hev
def Tryz.lays138_ren:Go.Shelf.Ren:=⟨fun|138=>54|195=>80|218=>82|143=>55|219=>83|217=>111|225=>112|224=>113|267=>114|266=>148|314=>149|n=>n,fun|9=>9|3=>3|4=>4|5=>5|0=>0|46=>68|146=>170|51=>169|n=>n,fun|1=>0|n=>n⟩
theorem Tryz.lays138:Go.Proofs.Lays.n138 Tryz.prog Tryz.lays138_ren:={
 mixed:=by kernel_rfl
 f138:=Tryz.func54.trans (congrArg some (by kernel_rfl))
 f143:=Tryz.func55.trans (congrArg some (by kernel_rfl))
 f195:=Tryz.func80.trans (congrArg some (by kernel_rfl))
 f217:=Tryz.func111.trans (congrArg some (by kernel_rfl))
 f218:=Tryz.func82.trans (congrArg some (by kernel_rfl))
 f219:=Tryz.func83.trans (congrArg some (by kernel_rfl))
 f224:=Tryz.func113.trans (congrArg some (by kernel_rfl))
 f225:=Tryz.func112.trans (congrArg some (by kernel_rfl))
 f266:=Tryz.func148.trans (congrArg some (by kernel_rfl))
 f267:=Tryz.func114.trans (congrArg some (by kernel_rfl))
 f314:=Tryz.func149.trans (congrArg some (by kernel_rfl))
 t0:=Tryz.underlying0
 a0:=Tryz.isAgg0
 z0:=Tryz.sizeOf0
 v0:=Tryz.zeroValue0
 t3:=Tryz.underlying3
 a3:=Tryz.isAgg3
 z3:=Tryz.sizeOf3
 v3:=Tryz.zeroValue3
 t4:=Tryz.underlying4
 a4:=Tryz.isAgg4
 z4:=Tryz.sizeOf4
 v4:=Tryz.zeroValue4
 t5:=Tryz.underlying5
 a5:=Tryz.isAgg5
 z5:=Tryz.sizeOf5
 v5:=Tryz.zeroValue5
 t9:=Tryz.underlying9
 a9:=Tryz.isAgg9
 z9:=Tryz.sizeOf9
 v9:=Tryz.zeroValue9
 t46:=Tryz.underlying68
 a46:=Tryz.isAgg68
 z46:=Tryz.sizeOf68
 v46:=Tryz.zeroValue68
 t51:=Tryz.underlying169
 a51:=Tryz.isAgg169
 z51:=Tryz.sizeOf169
 v51:=Tryz.zeroValue169
 t146:=Tryz.underlying170
 a146:=Tryz.isAgg170
 z146:=Tryz.sizeOf170
 v146:=Tryz.zeroValue170
 g1:=by kernel_rfl}
open Go.RowKit Go.Lib in
theorem Tryz.strings_Count_one (s:ByteArray) (c:UInt8) (w:World):
  Calls Tryz.prog 54 #[.string s,.string ⟨#[c]⟩] w fun e w'=>e= .returned (.int .i64 (Lib.countByte s.data.toList c))∧w'=w:=Any.strings_Count_one Tryz.lays138 s c w
def Tryz.lays99_ren:Go.Shelf.Ren:=⟨fun|99=>70|206=>106|n=>n,fun|9=>9|4=>4|3=>3|n=>n,fun|n=>n⟩
theorem Tryz.lays99:Go.Proofs.Lays.n99 Tryz.prog Tryz.lays99_ren:={
 mixed:=by kernel_rfl
 f99:=Tryz.func70.trans (congrArg some (by kernel_rfl))
 f206:=Tryz.func106.trans (congrArg some (by kernel_rfl))
 t3:=Tryz.underlying3
 a3:=Tryz.isAgg3
 z3:=Tryz.sizeOf3
 v3:=Tryz.zeroValue3
 t4:=Tryz.underlying4
 a4:=Tryz.isAgg4
 z4:=Tryz.sizeOf4
 v4:=Tryz.zeroValue4
 t9:=Tryz.underlying9
 a9:=Tryz.isAgg9
 z9:=Tryz.sizeOf9
 v9:=Tryz.zeroValue9}
open Go.RowKit Go.Lib in
theorem Tryz.strings_HasPrefix (s p:ByteArray) (w:World):
  Calls Tryz.prog 70 #[.string s,.string p] w fun e w'=>e= .returned (.bool (Lib.hasPrefix s.data.toList p.data.toList))∧w'=w:=Any.strings_HasPrefix Tryz.lays99 s p w
def Tryz.lays152_ren:Go.Shelf.Ren:=⟨fun|152=>151|137=>178|119=>179|224=>113|225=>112|217=>111|266=>148|n=>n,fun|9=>9|21=>21|3=>3|4=>4|5=>5|0=>0|46=>68|n=>n,fun|n=>n⟩
theorem Tryz.lays152:Go.Proofs.Lays.n152 Tryz.prog Tryz.lays152_ren:={
 mixed:=by kernel_rfl
 f119:=Tryz.func179.trans (congrArg some (by kernel_rfl))
 f137:=Tryz.func178.trans (congrArg some (by kernel_rfl))
 f152:=Tryz.func151.trans (congrArg some (by kernel_rfl))
 f217:=Tryz.func111.trans (congrArg some (by kernel_rfl))
 f224:=Tryz.func113.trans (congrArg some (by kernel_rfl))
 f225:=Tryz.func112.trans (congrArg some (by kernel_rfl))
 f266:=Tryz.func148.trans (congrArg some (by kernel_rfl))
 t0:=Tryz.underlying0
 a0:=Tryz.isAgg0
 z0:=Tryz.sizeOf0
 v0:=Tryz.zeroValue0
 t3:=Tryz.underlying3
 a3:=Tryz.isAgg3
 z3:=Tryz.sizeOf3
 v3:=Tryz.zeroValue3
 t4:=Tryz.underlying4
 a4:=Tryz.isAgg4
 z4:=Tryz.sizeOf4
 v4:=Tryz.zeroValue4
 t5:=Tryz.underlying5
 a5:=Tryz.isAgg5
 z5:=Tryz.sizeOf5
 v5:=Tryz.zeroValue5
 t9:=Tryz.underlying9
 a9:=Tryz.isAgg9
 z9:=Tryz.sizeOf9
 v9:=Tryz.zeroValue9
 t21:=Tryz.underlying21
 a21:=Tryz.isAgg21
 z21:=Tryz.sizeOf21
 v21:=Tryz.zeroValue21
 t46:=Tryz.underlying68
 a46:=Tryz.isAgg68
 z46:=Tryz.sizeOf68
 v46:=Tryz.zeroValue68}
open Go.RowKit Go.Lib in
theorem Tryz.strings_IndexRune_ascii (s:ByteArray) (r:Int) (w:World) (h0:0≤r) (h1:r<128):
  Calls Tryz.prog 151 #[.string s,.int .i32 r] w fun e w'=>e= .returned (.int .i64 (Lib.indexByte s.data.toList r.toNat.toUInt8))∧w'=w:=Any.strings_IndexRune_ascii Tryz.lays152 s r w h0 h1
def Tryz.lays151_ren:Go.Shelf.Ren:=⟨fun|151=>177|152=>151|137=>178|119=>179|224=>113|225=>112|217=>111|266=>148|n=>n,fun|9=>9|21=>21|4=>4|3=>3|5=>5|0=>0|46=>68|n=>n,fun|n=>n⟩
theorem Tryz.lays151:Go.Proofs.Lays.n151 Tryz.prog Tryz.lays151_ren:={
 mixed:=by kernel_rfl
 f119:=Tryz.func179.trans (congrArg some (by kernel_rfl))
 f137:=Tryz.func178.trans (congrArg some (by kernel_rfl))
 f151:=Tryz.func177.trans (congrArg some (by kernel_rfl))
 f152:=Tryz.func151.trans (congrArg some (by kernel_rfl))
 f217:=Tryz.func111.trans (congrArg some (by kernel_rfl))
 f224:=Tryz.func113.trans (congrArg some (by kernel_rfl))
 f225:=Tryz.func112.trans (congrArg some (by kernel_rfl))
 f266:=Tryz.func148.trans (congrArg some (by kernel_rfl))
 t0:=Tryz.underlying0
 a0:=Tryz.isAgg0
 z0:=Tryz.sizeOf0
 v0:=Tryz.zeroValue0
 t3:=Tryz.underlying3
 a3:=Tryz.isAgg3
 z3:=Tryz.sizeOf3
 v3:=Tryz.zeroValue3
 t4:=Tryz.underlying4
 a4:=Tryz.isAgg4
 z4:=Tryz.sizeOf4
 v4:=Tryz.zeroValue4
 t5:=Tryz.underlying5
 a5:=Tryz.isAgg5
 z5:=Tryz.sizeOf5
 v5:=Tryz.zeroValue5
 t9:=Tryz.underlying9
 a9:=Tryz.isAgg9
 z9:=Tryz.sizeOf9
 v9:=Tryz.zeroValue9
 t21:=Tryz.underlying21
 a21:=Tryz.isAgg21
 z21:=Tryz.sizeOf21
 v21:=Tryz.zeroValue21
 t46:=Tryz.underlying68
 a46:=Tryz.isAgg68
 z46:=Tryz.sizeOf68
 v46:=Tryz.zeroValue68}
open Go.RowKit Go.Lib in
theorem Tryz.strings_ContainsRune_ascii (s:ByteArray) (r:Int) (w:World) (h0:0≤r) (h1:r<128):
  Calls Tryz.prog 177 #[.string s,.int .i32 r] w fun e w'=>e= .returned (.bool (decide (0≤Lib.indexByte s.data.toList r.toNat.toUInt8)))∧w'=w:=Any.strings_ContainsRune_ascii Tryz.lays151 s r w h0 h1
def Tryz.lays105_ren:Go.Shelf.Ren:=⟨fun|105=>47|212=>69|99=>70|165=>30|166=>31|170=>71|169=>32|263=>104|264=>105|206=>106|240=>49|241=>50|276=>73|277=>74|n=>n,fun|9=>9|3=>3|4=>4|20=>20|0=>0|46=>68|109=>120|5=>5|72=>71|76=>75|51=>169|146=>170|53=>65|148=>172|70=>69|37=>67|75=>74|127=>98|164=>124|80=>77|n=>n,fun|n=>n⟩
theorem Tryz.lays105:Go.Proofs.Lays.n105 Tryz.prog Tryz.lays105_ren:={
 mixed:=by kernel_rfl
 f99:=Tryz.func70.trans (congrArg some (by kernel_rfl))
 f105:=Tryz.func47.trans (congrArg some (by kernel_rfl))
 f165:=Tryz.func30.trans (congrArg some (by kernel_rfl))
 f166:=Tryz.func31.trans (congrArg some (by kernel_rfl))
 f169:=Tryz.func32.trans (congrArg some (by kernel_rfl))
 f170:=Tryz.func71.trans (congrArg some (by kernel_rfl))
 f206:=Tryz.func106.trans (congrArg some (by kernel_rfl))
 f212:=Tryz.func69.trans (congrArg some (by kernel_rfl))
 f240:=Tryz.func49.trans (congrArg some (by kernel_rfl))
 f241:=Tryz.func50.trans (congrArg some (by kernel_rfl))
 f263:=Tryz.func104.trans (congrArg some (by kernel_rfl))
 f264:=Tryz.func105.trans (congrArg some (by kernel_rfl))
 f276:=Tryz.func73.trans (congrArg some (by kernel_rfl))
 f277:=Tryz.func74.trans (congrArg some (by kernel_rfl))
 t0:=Tryz.underlying0
 a0:=Tryz.isAgg0
 z0:=Tryz.sizeOf0
 v0:=Tryz.zeroValue0
 t3:=Tryz.underlying3
 a3:=Tryz.isAgg3
 z3:=Tryz.sizeOf3
 v3:=Tryz.zeroValue3
 t4:=Tryz.underlying4
 a4:=Tryz.isAgg4
 z4:=Tryz.sizeOf4
 v4:=Tryz.zeroValue4
 t5:=Tryz.underlying5
 a5:=Tryz.isAgg5
 z5:=Tryz.sizeOf5
 v5:=Tryz.zeroValue5
 t9:=Tryz.underlying9
 a9:=Tryz.isAgg9
 z9:=Tryz.sizeOf9
 v9:=Tryz.zeroValue9
 t20:=Tryz.underlying20
 a20:=Tryz.isAgg20
 z20:=Tryz.sizeOf20
 v20:=Tryz.zeroValue20
 t37:=Tryz.underlying67
 a37:=Tryz.isAgg67
 z37:=Tryz.sizeOf67
 v37:=Tryz.zeroValue67
 t46:=Tryz.underlying68
 a46:=Tryz.isAgg68
 z46:=Tryz.sizeOf68
 v46:=Tryz.zeroValue68
 t51:=Tryz.underlying169
 a51:=Tryz.isAgg169
 z51:=Tryz.sizeOf169
 v51:=Tryz.zeroValue169
 t53:=Tryz.underlying65
 a53:=Tryz.isAgg65
 z53:=Tryz.sizeOf65
 v53:=Tryz.zeroValue65
 t70:=Tryz.underlying69
 a70:=Tryz.isAgg69
 z70:=Tryz.sizeOf69
 v70:=Tryz.zeroValue69
 t72:=Tryz.underlying71
 a72:=Tryz.isAgg71
 z72:=Tryz.sizeOf71
 v72:=Tryz.zeroValue71
 t75:=Tryz.underlying74
 a75:=Tryz.isAgg74
 z75:=Tryz.sizeOf74
 v75:=Tryz.zeroValue74
 t76:=Tryz.underlying75
 a76:=Tryz.isAgg75
 z76:=Tryz.sizeOf75
 v76:=Tryz.zeroValue75
 t109:=Tryz.underlying120
 a109:=Tryz.isAgg120
 z109:=Tryz.sizeOf120
 v109:=Tryz.zeroValue120
 t127:=Tryz.underlying98
 a127:=Tryz.isAgg98
 z127:=Tryz.sizeOf98
 v127:=Tryz.zeroValue98
 t146:=Tryz.underlying170
 a146:=Tryz.isAgg170
 z146:=Tryz.sizeOf170
 v146:=Tryz.zeroValue170
 t148:=Tryz.underlying172
 a148:=Tryz.isAgg172
 z148:=Tryz.sizeOf172
 v148:=Tryz.zeroValue172
 t164:=Tryz.underlying124
 a164:=Tryz.isAgg124
 z164:=Tryz.sizeOf124
 v164:=Tryz.zeroValue124}
theorem Tryz.Builder_Extra_105:Builder.Extra Tryz.prog Tryz.lays105_ren:={
 sizeBuilder:=by kernel_rfl
 liesBuilder:=by kernel_rfl
 t5:=Tryz.underlying5
 a5:=Tryz.isAgg5
 z5:=Tryz.sizeOf5
 v5:=Tryz.zeroValue5
 infoByte:=by kernel_rfl
 cellsByte:=by kernel_rfl
 sizeByte:=by kernel_rfl
 neB5:=by decide}
open Go.RowKit Go.Lib in
theorem Tryz.strings_Repeat (s:ByteArray) (c:Nat) (w:World) (hc:c≤9223372036854775807) (hlen:s.size*c≤140737488355328):
  Calls Tryz.prog 47 #[.string s,.int .i64 c] w fun e w'=>e= .returned (.string ⟨(Lib.repeatL s.data.toList c).toArray⟩)∧Below w.heap.size w w':=Any.strings_Repeat Tryz.lays105 Tryz.Builder_Extra_105 s c w hc hlen
def Tryz.lays194_ren:Go.Shelf.Ren:=⟨fun|194=>126|n=>n,fun|31=>22|9=>9|3=>3|4=>4|0=>0|n=>n,fun|n=>n⟩
theorem Tryz.lays194:Go.Proofs.Lays.n194 Tryz.prog Tryz.lays194_ren:={
 mixed:=by kernel_rfl
 f194:=Tryz.func126.trans (congrArg some (by kernel_rfl))
 t0:=Tryz.underlying0
 a0:=Tryz.isAgg0
 z0:=Tryz.sizeOf0
 v0:=Tryz.zeroValue0
 t3:=Tryz.underlying3
 a3:=Tryz.isAgg3
 z3:=Tryz.sizeOf3
 v3:=Tryz.zeroValue3
 t4:=Tryz.underlying4
 a4:=Tryz.isAgg4
 z4:=Tryz.sizeOf4
 v4:=Tryz.zeroValue4
 t9:=Tryz.underlying9
 a9:=Tryz.isAgg9
 z9:=Tryz.sizeOf9
 v9:=Tryz.zeroValue9
 t31:=Tryz.underlying22
 a31:=Tryz.isAgg22
 z31:=Tryz.sizeOf22
 v31:=Tryz.zeroValue22}
open Go.RowKit Go.Lib Go.Sort in
theorem Tryz.slices_Compact_string (blk off cap:Nat) (zs:List (List UInt8)) (w:World) (hH:Holds encStr w blk off zs.toArray) (hsz:zs.length≤9223372036854775807) (hcap:zs.length≤cap):
  Calls Tryz.prog 126 #[.slice (some ⟨blk,off,none⟩) zs.length cap] w fun e w'=>e= .returned (.slice (some ⟨blk,off,none⟩) (Lib.compact zs).length cap)∧∃q,w'=putRow encStr (Sort.ahead w q) blk off (Lib.compact zs++List.replicate (zs.length - (Lib.compact zs).length) []).toArray:=Any.slices_Compact_string Tryz.lays194 blk off cap zs w hH hsz hcap
open Go.RowKit Go.Lib Go.Sort in
theorem Tryz.slices_Compact_string_empty (a:Option Addr) (cap:Nat) (w:World):
  Calls Tryz.prog 126 #[.slice a 0 cap] w fun e w'=>e= .returned (.slice a 0 cap)∧w'=w:=Any.slices_Compact_string_empty Tryz.lays194 a cap w
end Go.Proofs
