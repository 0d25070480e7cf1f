/- Texts joined by pack.py: XSxU XLx1 XLx0 XSxC0 XLx2 XLx3 -/
import Derived.Test.YtglndfgmlminpaaGreatDoorSx14
import Derived.IntWalk
import Derived.Lib.ItoaNum
import Derived.Laws.IdiomStrings
import Derived.Laws.BytesArg
import Derived.Laws.Runes
set_option maxRecDepth 100000
namespace Go.Proofs.YtglndfgmlminpaaGreatDoor
open Go.RowKit
theorem fin_int {a b:Int} (h:a=b):int a=int b:=by rw[h]
theorem fin_boo {a b:Bool} (h:a=b):boo a=boo b:=by rw[h]
theorem get_map {α:Type} (f:α→List D) {l:List α} {k:Nat} (h:k<l.length):(l.map f)[(k:Int).toNat]?=some (f l[k]):=by
 simp[h]
theorem wrap_in {n:Int} (h: -9223372036854775808≤n∧n≤9223372036854775807):IntKind.i64.wrap n=n:=IntWalk.i64_in _ h
theorem wrap_succ {k:Nat} (h:k<9223372036854775807):IntKind.i64.wrap ((k:Int)+1)=((k+1:Nat):Int):=by
 rw[IntWalk.i64_in _ (by omega)];rfl
theorem and_rfl {α:Type} {a:α} {p:Prop} (h:p):a=a∧p:=⟨rfl,h⟩
theorem and_two {p q:Prop} (h:p) (h':q):p∧q:=⟨h,h'⟩
theorem and_val {a b:Int} {p:Prop} (e:a=b) (h:p):V.cv (.int .i64 a)=V.cv (.int .i64 b)∧p:=⟨by rw[e],h⟩
def V.val1:V→Option Value
 | .cv v=>some v
 | .kb b=>some (.bool b)
 |_=>none
def valsL:List V→Option (List Value)
 |[]=>some []
 |v::l=>match v.val1,valsL l with
  |some u,some us=>some (u::us)
  |_,_=>none
def V.val2:V→Option Value
 | .ag cs=>(valsL cs).map fun us=> .agg us.toArray
 |v=>v.val1
def valsL2:List V→Option (List Value)
 |[]=>some []
 |v::l=>match v.val2,valsL2 l with
  |some u,some us=>some (u::us)
  |_,_=>none
def V.val:V→Option Value
 | .tu vs=>(valsL2 vs).map fun us=> .tuple us.toArray
 |v=>v.val2
section
variable {N:Names} {S:Sets} {w:World}
theorem val1_eq {v:V} {u u':Value} (h:RelV N S w v u) (hv:v.val1=some u'):u=u':=by
 cases h<;>simp[V.val1] at hv<;>exact hv
theorem valsL_eq:∀(cs:List V) (us:List Value),valsL cs=some us→us.length=cs.length∧∀(i:Nat) (v:V),cs[i]?=some v→∃u,us[i]?=some u∧v.val1=some u
 |[],us,h=>by simp[valsL] at h;subst h;simp
 |c::cs,us,h=>by
  simp only[valsL] at h
  split at h
  ·rename_i u us' h1 h2
   cases h
   obtain⟨e1,e2⟩:=valsL_eq cs us' h2
   refine⟨by simp[e1],fun i v hv=>?_⟩
   cases i with
   |zero=>simp at hv;subst hv;exact⟨u,by simp,h1⟩
   |succ i=>simpa using e2 i v (by simpa using hv)
  ·cases h
theorem val2_eq {v:V} {u u':Value} (h:RelV N S w v u) (hv:v.val2=some u'):u=u':=by
 cases v with
 |ag cs=>
  simp only[V.val2,Option.map_eq_some_iff] at hv
  obtain⟨us',h1,rfl⟩:=hv
  obtain⟨e1,e2⟩:=valsL_eq cs us' h1
  cases h with
  |ag _ us hl h=>
   congr 1
   apply Array.ext'
   refine List.ext_getElem? fun i=>?_
   cases hi:cs[i]? with
   |none=>
    have h1:cs.length≤i:=List.getElem?_eq_none_iff.1 hi
    rw[List.getElem?_eq_none (by simp;omega),List.getElem?_eq_none (by simp;omega)]
   |some v=>
    obtain⟨u,h3,h4⟩:=e2 i v hi
    have:=val1_eq (h i v hi) h4
    have hlt:i<us.size:=by have:=lt_of_get hi;omega
    rw[get_of_lt hlt,this]
    simpa using h3.symm
 |_=>exact val1_eq h hv
theorem of_val1 {v:V} {u:Value} (hv:v.val1=some u):RelV N S w v u:=by
 cases v<;>simp[V.val1] at hv<;>subst hv
 ·exact .cv _
 ·exact .kb _
theorem of_val2 {v:V} {u:Value} (hv:v.val2=some u):RelV N S w v u:=by
 cases v with
 |ag cs=>
  simp only[V.val2,Option.map_eq_some_iff] at hv
  obtain⟨us',h1,rfl⟩:=hv
  obtain⟨e1,e2⟩:=valsL_eq cs us' h1
  refine .ag _ _ (by simp[e1]) fun i v hi=>?_
  obtain⟨u,h3,h4⟩:=e2 i v hi
  rw[getD_of_get (us:=us'.toArray) (by simpa using h3)]
  exact of_val1 h4
 |_=>exact of_val1 hv
theorem valsL2_eq:∀(cs:List V) (us:List Value),valsL2 cs=some us→us.length=cs.length∧∀(i:Nat) (v:V),cs[i]?=some v→∃u,us[i]?=some u∧v.val2=some u
 |[],us,h=>by simp[valsL2] at h;subst h;simp
 |c::cs,us,h=>by
  simp only[valsL2] at h
  split at h
  ·rename_i u us' h1 h2
   cases h
   obtain⟨e1,e2⟩:=valsL2_eq cs us' h2
   refine⟨by simp[e1],fun i v hv=>?_⟩
   cases i with
   |zero=>simp at hv;subst hv;exact⟨u,by simp,h1⟩
   |succ i=>simpa using e2 i v (by simpa using hv)
  ·cases h
theorem of_val {v:V} {u:Value} (hv:v.val=some u):RelV N S w v u:=by
 cases v with
 |tu cs=>
  simp only[V.val,Option.map_eq_some_iff] at hv
  obtain⟨us',h1,rfl⟩:=hv
  obtain⟨e1,e2⟩:=valsL2_eq cs us' h1
  refine .tu _ _ (by simp[e1]) fun i v hi=>?_
  obtain⟨u,h3,h4⟩:=e2 i v hi
  rw[getD_of_get (us:=us'.toArray) (by simpa using h3)]
  exact of_val2 h4
 |_=>exact of_val2 hv
end
theorem dcalls_val {f:FuncId} {fn:Func} {args:List V} {res:V} {us:List Value} {v:Value} (hf:Tryz.prog.funcs[f]?=some fn) (hn:(fn.name== "runtime.NumGoroutine")=false) (hb:fn.body.isNone=false) (ha:valsL2 args=some us) (hr:res.val=some v)
  (h:∀w,ginv w→Calls Tryz.prog f us.toArray w fun e w'=>e= .returned v∧Below w.heap.size w w'):DCalls Tryz.prog f args res:=by
 refine⟨⟨fn,hf,hn,hb⟩,fun w vs hg hvs=>?_⟩
 obtain⟨e1,e2⟩:=valsL2_eq args us ha
 have:vs=us:=by
  refine List.ext_getElem? fun i=>?_
  cases hi:args[i]? with
  |none=>
   have h1:args.length≤i:=List.getElem?_eq_none_iff.1 hi
   rw[List.getElem?_eq_none (by rw[←hvs.1];exact h1),List.getElem?_eq_none (by omega)]
  |some v=>
   obtain⟨u,h3,h4⟩:=e2 i v hi
   have h5:=val2_eq (hvs.2 i v hi) h4
   have hlt:i<vs.length:=by rw[←hvs.1];exact lt_of_get hi
   rw[h3,List.getElem?_eq_getElem hlt,←h5,List.getD_eq_getElem?_getD,List.getElem?_eq_getElem hlt]
   rfl
 subst this
 exact(h w hg).mono fun e w' ⟨he,hb⟩=>⟨v,he,of_val hr,hb⟩
end Go.Proofs.YtglndfgmlminpaaGreatDoor
namespace Go.Proofs.YtglndfgmlminpaaGreatDoor
open Go.RowKit
theorem known {c:Bool} (b:Bool) {K:Bool→Prop} (hc:c=b) (h:K b):∀b',c=b'→K b':=fun b' e=>by subst e;rw[hc];exact h
def sEq (a b:ByteArray):Bool:=a.toList==b.toList
def kws:List ByteArray:=[⟨#[102,117,110,99]⟩,⟨#[108,101,116]⟩,⟨#[105,102]⟩,⟨#[101,108,115,101]⟩,⟨#[119,104,105,108,101]⟩,⟨#[114,101,116,117,114,110]⟩,⟨#[97,110,100]⟩,⟨#[111,114]⟩,⟨#[110,111,116]⟩,⟨#[110,117,108,108]⟩,⟨#[116,114,117,101]⟩,⟨#[102,97,108,115,101]⟩]
def kwB (s:ByteArray):Bool:=kws.any fun k=>sEq s k
theorem x_keyword (s:ByteArray):DCalls Tryz.prog 84 [str s] (boo (kwB s)):=by
 refine sx Tryz.func84 (by kernel_rfl) ?_
 iterate 12 ((conv=>whnf);rintro(_|_) h;rotate_left;((conv=>whnf);exact fin_boo (by simp_all [kwB,kws,sEq])))
 conv=>whnf
 exact fin_boo (by simp_all [kwB,kws,sEq])
theorem x_rkeyword (s:ByteArray):DCalls Tryz.prog 102 [str s] (boo (kwB s)):=by
 refine sx Tryz.func102 (by kernel_rfl) ?_
 iterate 11 ((conv=>whnf);rintro(_|_) h;rotate_left;((conv=>whnf);exact fin_boo (by simp_all [kwB,kws,sEq])))
 conv=>whnf
 exact fin_boo (by simp only[kwB,kws,sEq,List.any_cons,List.any_nil, *,Bool.false_or,Bool.or_false])
end Go.Proofs.YtglndfgmlminpaaGreatDoor
namespace Go.Proofs.YtglndfgmlminpaaGreatDoor
open Go.RowKit
abbrev Bs:=List UInt8
def mk (l:Bs):ByteArray:=⟨l.toArray⟩
abbrev bstr (l:Bs):V:=str (mk l)
theorem mk_of (s:ByteArray):mk s.data.toList=s:=rfl
theorem mk_size (l:Bs):(mk l).size=l.length:=by simp[mk,ByteArray.size]
theorem mk_get (l:Bs) (i:Nat):(mk l)[i]?=l[i]?:=by
 by_cases h:i<l.length
 ·rw[getElem?_pos (mk l) i (by rw[mk_size];exact h),List.getElem?_eq_getElem h]
  simp[mk,ByteArray.getElem_eq_getElem_data]
 ·rw[getElem?_neg (mk l) i (by rw[mk_size];exact h),List.getElem?_eq_none (by omega)]
theorem ba_ext {a b:ByteArray} (h:a.data.toList=b.data.toList):a=b:=by
 rw[←mk_of a,←mk_of b,h]
theorem mk_ext (l:Bs) (a b:Nat):(mk l).extract a b=mk ((l.take b).drop a):=by
 apply ba_ext
 simp[mk,ByteArray.data_extract,List.extract]
 rw[List.drop_take]
theorem mk_from (l:Bs) (a:Nat):(mk l).extract a l.length=mk (l.drop a):=by rw[mk_ext,List.take_length]
theorem mk_to (l:Bs) (b:Nat):(mk l).extract 0 b=mk (l.take b):=by rw[mk_ext,List.drop_zero]
theorem mk_app (a b:Bs):mk a++mk b=mk (a++b):=by
 apply ba_ext
 simp[mk,ByteArray.data_append]
theorem sEq_mk (a b:Bs):sEq (mk a) (mk b)=(a==b):=by
 have e:∀l:Bs,(mk l).toList=l:=by
  intro l
  rw[ByteArray.toList_eq]
  simp[mk]
 unfold sEq
 rw[e,e]
def isBl (c:UInt8):Bool:=c==32||c==9||c==10
def isHd (c:UInt8):Bool:=(decide (97≤c)&&decide (c≤122))||c==95
def isDg (c:UInt8):Bool:=decide (48≤c)&&decide (c≤57)
def syms:Bs:=[40,41,123,125,91,93,44,59,58,61,33,60,62,43,45,42,47,37]
def isSy (c:UInt8):Bool:=syms.contains c
def cls (c:UInt8):Int:=if isBl c then 1 else if isHd c then 2 else if isDg c then 3 else if c==34 then 4 else if c==64 then 5 else if isSy c then 6 else 0
def runT:Bs→Nat
 |[]=>0
 |c::l=>if isHd c||isDg c then runT l+1 else 0
def runL:Bs→Nat
 |[]=>0
 |c::l=>if isHd c then runT l+1 else 0
def digL:Bs→Nat
 |[]=>0
 |c::l=>if isDg c then digL l+1 else 0
def skp:Bool→Bs→Nat
 |_,[]=>0
 |false,c::l=>if isBl c then skp false l+1 else if c==47&&l.head? ==some 47 then skp true l+1 else 0
 |true,c::l=>if c==10 then skp false l+1 else skp true l+1
abbrev skip (l:Bs):Nat:=skp false l
def txt:Bs→Nat→Bs→Bs×Nat×Int
 |[],_,_=>([],0,1)
 |c::l,i,out=>if c<32||c>126 then([],i,1) else if c==34 then(out,i+1,0) else
  if c==92 then(match l with
   |[]=>([],i,1)
   |d::l'=>if d==34||d==92 then(if out.length=200 then([],0,3) else txt l' (i+2) (out++[d])) else([],i,1))
  else if out.length=200 then([],0,3) else txt l (i+1) (out++[c])
def dval:Bs→Nat→Nat
 |[],n=>n
 |c::l,n=>dval l (10*n+(c.toNat - 48))
def pnum (l:Bs):Int×Int:=if l.length>1∧l.head?=some 48 then(0,1) else if dval l 0>1000000000000 then(0,2) else(dval l 0,0)
structure Tok where
 kind:Int
 text:Bs
 val:Int
 at_:Int
def tokD (t:Tok):List D:=[.cv (.int .i64 t.kind),.cv (.string (mk t.text)),.cv (.int .i64 t.val),.cv (.int .i64 t.at_)]
abbrev toks (l:List Tok):V:= .sl true 4 (l.map tokD)
abbrev Tok.V (t:Tok):V:= .ag [int t.kind,bstr t.text,int t.val,int t.at_]
def noTok:Tok:=⟨0,[],0,0⟩
def kwL (l:Bs):Bool:=kwB (mk l)
def symB (l:Bs):Bool:=l==[61,61]||l==[33,61]||l==[60,61]||l==[62,61]||(l.length==1&&l !=[33]&&isSy (l.headD 0))
def tok1 (l:Bs):Tok×Nat×Int:=
 match l with
 |[]=>(noTok,0,1)
 |c::r=>
  if isHd c then
   (if runL l>24 then(noTok,0,3) else if kwL (l.take (runL l)) then(⟨2,l.take (runL l),0,0⟩,runL l,0) else(⟨1,l.take (runL l),0,0⟩,runL l,0))
  else if isDg c then
   (if(pnum (l.take (digL l))).2=0 then(⟨3,[],(pnum (l.take (digL l))).1,0⟩,digL l,0) else(noTok,0,(pnum (l.take (digL l))).2))
  else if c==34 then
   (if(txt r 1 []).2.2=0 then(⟨4,(txt r 1 []).1,0,0⟩,(txt r 1 []).2.1,0) else(noTok,(txt r 1 []).2.1,(txt r 1 []).2.2))
  else if c==64 then
   (if runL r=0 then(noTok,0,1) else if runL r>24 then(noTok,0,3) else(⟨6,r.take (runL r),0,0⟩,runL r+1,0))
  else if 2≤l.length∧symB (l.take 2) then(⟨5,l.take 2,0,0⟩,2,0)
  else if symB (l.take 1) then(⟨5,l.take 1,0,0⟩,1,0)
  else(noTok,0,1)
def toksF:Nat→Bs→Nat→List Tok→List Tok×Nat×Int
 |0,_,_,out=>(out,0,0)
 |f+1,l,at_,out=>
  if l=[] then(out,0,0) else
  if out.length=1000 then([],at_,3) else
  if(tok1 l).2.2=0 then
   toksF f (l.drop ((tok1 l).2.1+skip (l.drop (tok1 l).2.1))) (at_+(tok1 l).2.1+skip (l.drop (tok1 l).2.1)) (out++[{(tok1 l).1 with at_:=at_}])
  else([],at_+(tok1 l).2.1,(tok1 l).2.2)
def tokens (l:Bs):List Tok×Nat×Int:=if l.length>4000 then([],0,3) else toksF l.length (l.drop (skip l)) (skip l) []
def wholeB (l:Bs):Bool:= !l.isEmpty&&decide (runL l=l.length)&&decide (l.length≤24)
def contB (l:Bs):Bool:=decide (l.length≤200)&&l.all fun c=> !(decide (c<32)||decide (c>126))
def esc:Bs→Bs
 |[]=>[]
 |c::l=>if c==34||c==92 then 92::c::esc l else c::esc l
def validB (n:Int):Bool:=decide (-1000000000000≤n)&&decide (n≤1000000000000)
def textT (t:Tok):Bs×Int:=
 if t.kind=3∧t.text=[]∧0≤t.val∧validB t.val then(Lib.itoa t.val,0)
 else if t.val≠0 then([],1)
 else if(t.kind=1∧wholeB t.text∧¬kwL t.text)∨(t.kind=2∧kwL t.text)∨(t.kind=5∧symB t.text) then(t.text,0)
 else if t.kind=6∧wholeB t.text then(64::t.text,0)
 else if t.kind=4∧contB t.text then(34::(esc t.text++[34]),0)
 else([],1)
end Go.Proofs.YtglndfgmlminpaaGreatDoor
namespace Go.Proofs.YtglndfgmlminpaaGreatDoor
open Go.RowKit
def byteD (b:UInt8):List D:=[.cv (.int .u8 (b.toNat:Nat))]
section
variable {P:Program} {o:Oper} {E:Operand→V} {m:List (Option Bk)} {s d:TypeId} {x:Operand}
theorem ot_rune {k:IntKind} {n:Int} (ho:o.op= .convert s d x) (hx:E x= .cv (.int k n)) (hs:(P.underlying s).isSome=true) (hd:P.underlying d=some .string):OpTr P o E m (.cv (.string (Utf8.encode n))) m:=by
 intro B w0 N S t a w hsat hr
 have h:=hr x (by rw[ho];simp[Op.operands])
 rw[hx] at h
 generalize hu:a.eval x=u at h
 cases h
 refine opOk_val (u:= .string (Utf8.encode n)) (w':=w) ?_ ⟨N,S,hsat,.cv _⟩
 unfold execOp
 simp only[ho]
 refine run_v ?_
 rw[hu]
 exact run_convert_int_string w s d k n hs hd
theorem ot_string {n k et:Nat} {f:Bool} {l:List UInt8} {e:TypeId} (ho:o.op= .convert s d x) (hx:E x= .ow n k) (hm:m[n]?=some (some (.row k et 1 f (l.map byteD))))
  (hs:P.underlying s=some (.slice e)) (he:P.underlying e=some (.int .u8)) (hd:P.underlying d=some .string):OpTr P o E m (.cv (.string ⟨l.toArray⟩)) m:=by
 intro B w0 N S t a w hsat hr
 have h:=hr x (by rw[ho];simp[Op.operands])
 rw[hx] at h
 generalize hu:a.eval x=u at h
 cases h
 rename_i hu1 hn
 obtain⟨k',v,hn,hk,hv⟩:=hn
 obtain⟨rfl,h1,h2,h3⟩:=row_cells hsat hm hn
 obtain rfl:=hv rfl
 refine opOk_val (u:= .string ⟨l.toArray⟩) (w':=w) ?_ ⟨N,S,hsat,.cv _⟩
 unfold execOp
 simp only[ho]
 refine run_v ?_
 rw[hu]
 rcases h3 with⟨rfl,h3⟩|⟨g,cap,us,rfl,h4,h5,h6,h7,h8⟩
 ·have:l=[]:=by simpa using h3
  subst this
  exact run_convert_bytes_nil w s e hs he 0 0 d hd
 ·rw[List.length_map]
  refine run_convert_bytes_back w s d e ⟨g,0,none⟩ cap l hs he hd fun j hj=>?_
  obtain⟨h9,h10⟩:=h8 j 0 (.cv (.int .u8 (l[j].toNat:Nat))) (by simp[hj,byteD])
  rw[add_mk]
  have e1:us.getD (j*1+0) undef= .int .u8 (l[j].toNat:Nat):=by
   generalize us.getD (j*1+0) undef=z at h10
   cases h10;rfl
  rw[show 0+j=j*1+0 by omega]
  unfold World.cell?
  simp only[h4]
  rw[←e1]
  have h9':j<us.size:=by omega
  simp[Array.getD_eq_getD_getElem?,Array.getElem?_eq_getElem h9']
end
end Go.Proofs.YtglndfgmlminpaaGreatDoor
namespace Go.Proofs.YtglndfgmlminpaaGreatDoor
open Go.RowKit
abbrev u8 (c:UInt8):V:= .cv (.int .u8 (c.toNat:Nat))
theorem u8_eq (c d:UInt8):(c==d)=decide ((c.toNat:Int)=(d.toNat:Int)):=by
 rw[Bool.eq_iff_iff]
 simp only[beq_iff_eq,decide_eq_true_eq]
 rw[←UInt8.toNat_inj];omega
theorem u8_le (c d:UInt8):(decide (c≤d))=decide ((c.toNat:Int)≤(d.toNat:Int)):=by
 rw[Bool.eq_iff_iff]
 simp only[decide_eq_true_eq,UInt8.le_iff_toNat_le];omega
theorem u8_lt (c d:UInt8):(decide (c<d))=decide ((c.toNat:Int)<(d.toNat:Int)):=by
 rw[Bool.eq_iff_iff]
 simp only[decide_eq_true_eq,UInt8.lt_iff_toNat_lt];omega
theorem isHd_int (c:UInt8):isHd c=(decide ((97:Int)≤(c.toNat:Int))&&decide ((c.toNat:Int)≤122)||decide ((c.toNat:Int)=95)):=by
 unfold isHd;rw[u8_eq,u8_le,u8_le];rfl
theorem isDg_int (c:UInt8):isDg c=(decide ((48:Int)≤(c.toNat:Int))&&decide ((c.toNat:Int)≤57)):=by
 unfold isDg;rw[u8_le,u8_le];rfl
theorem isBl_int (c:UInt8):isBl c=(decide ((c.toNat:Int)=32)||decide ((c.toNat:Int)=9)||decide ((c.toNat:Int)=10)):=by
 unfold isBl;rw[u8_eq,u8_eq,u8_eq];rfl
theorem x_head (c:UInt8):DCalls Tryz.prog 142 [u8 c] (boo (isHd c)):=by
 refine sx Tryz.func142 (by kernel_rfl) ?_
 repeat' (first|exact fin_boo (by rw[isHd_int,Bool.eq_iff_iff];simp at*;omega)|((conv=>whnf);rintro(_|_) h))
theorem x_digit (c:UInt8):DCalls Tryz.prog 98 [u8 c] (boo (isDg c)):=by
 refine sx Tryz.func98 (by kernel_rfl) ?_
 repeat' (first|exact fin_boo (by rw[isDg_int,Bool.eq_iff_iff];simp at*;omega)|((conv=>whnf);rintro(_|_) h))
theorem drop_cons {l:Bs} {n:Nat} (h:n<l.length):l.drop n=l[n]::l.drop (n+1):=List.drop_eq_getElem_cons h
theorem mk_at {l:Bs} {n:Nat} (h:n<l.length):(mk l)[((n:Nat):Int).toNat]?=some l[n]:=by rw[Int.toNat_natCast,mk_get,List.getElem?_eq_getElem h]
theorem x_rrun (l:Bs) (n:Nat) (hn:n≤l.length) (hl:l.length<9223372036854775807):DCalls Tryz.prog 101 [bstr l,int n] (int (n+runL (l.drop n):Nat)):=by
 refine sx Tryz.func101 (by kernel_rfl) ?_
 conv=>whnf
 rintro(_|_) h0
 rotate_left
 ·simp[mk_size] at h0
  conv=>whnf
  exact fin_int (by rw[List.drop_eq_nil_of_le h0];simp[runL])
 simp[mk_size] at h0
 conv=>whnf
 refine⟨by omega,_,mk_at h0,?_⟩
 conv=>whnf
 refine⟨_,x_head l[n],?_⟩
 conv=>whnf
 rintro(_|_) h1
 rotate_left
 ·simp at h1
  conv=>whnf
  exact fin_int (by rw[drop_cons h0];simp[runL,h1])
 simp at h1
 have hr:runL (l.drop n)=runT (l.drop n):=by rw[drop_cons h0];simp[runL,runT,h1]
 rw[hr]
 conv=>whnf
 refine⟨[],Nat,fun k=>[(1,int k)],fun _=>[],fun k=>n≤k∧k≤l.length∧k+runT (l.drop k)=n+runT (l.drop n),fun k=>l.length - k,n,⟨Nat.le_refl _,hn,rfl⟩,?_,?_⟩
 ·refine⟨rfl,?_,?_⟩<;>repeat' (first|exact trivial|exact rfl|refine and_rfl ?_|refine and_two ?_ ?_)
 rintro k ⟨hk1,hk2,hk⟩
 conv=>whnf
 rintro(_|_) h2
 ·simp[mk_size] at h2
  rw[List.drop_eq_nil_of_le h2] at hk
  conv=>whnf
  exact fin_int (by simp[runT] at hk;omega)
 simp[mk_size] at h2
 conv=>whnf
 refine⟨by omega,_,mk_at h2,?_⟩
 have hrk:runT (l.drop k)=if isHd l[k]||isDg l[k] then runT (l.drop (k+1))+1 else 0:=by rw[drop_cons h2];rfl
 conv=>whnf
 refine⟨_,x_head l[k],?_⟩
 conv=>whnf
 rintro(_|_) h3
 ·conv=>whnf
  refine⟨by omega,_,mk_at h2,?_⟩
  conv=>whnf
  refine⟨_,x_digit l[k],?_⟩
  conv=>whnf
  rintro(_|_) h4
  ·rw[h3,h4] at hrk
   conv=>whnf
   exact fin_int (by simp at hrk;omega)
  rw[h3,h4] at hrk
  simp at hrk
  conv=>whnf
  refine⟨k+1,⟨by omega,h2,by omega⟩,by dsimp only;omega,?_⟩
  refine⟨rfl,?_,?_⟩<;>repeat' (first|exact trivial|exact rfl|refine and_rfl ?_|refine and_val (wrap_succ (by omega)) ?_|refine and_two ?_ ?_)
 ·rw[h3] at hrk
  simp at hrk
  conv=>whnf
  refine⟨k+1,⟨by omega,h2,by omega⟩,by dsimp only;omega,?_⟩
  refine⟨rfl,?_,?_⟩<;>repeat' (first|exact trivial|exact rfl|refine and_rfl ?_|refine and_val (wrap_succ (by omega)) ?_|refine and_two ?_ ?_)
end Go.Proofs.YtglndfgmlminpaaGreatDoor
namespace Go.Proofs.YtglndfgmlminpaaGreatDoor
open Go.RowKit
theorem skp_bl {c:UInt8} {l:Bs} (h:isBl c=true):skp false (c::l)=skp false l+1:=by simp[skp,h]
theorem skp_end {c:UInt8} {l:Bs} (h:isBl c=false) (h2:(c==47&&l.head? ==some 47)=false):skp false (c::l)=0:=by simp[skp,h,h2]
theorem skp_com {l:Bs} (h:l.head?=some 47):skp false (47::l)=skp true l+1:=by simp[skp,h,show isBl 47=false from rfl]
theorem skp_nl {l:Bs}:skp true (10::l)=skp false (10::l):=by simp[skp,show isBl 10=true from rfl]
theorem skp_in {c:UInt8} {l:Bs} (h:(c==10)=false):skp true (c::l)=skp true l+1:=by simp[skp,h]
theorem x_rskip (l:Bs) (n:Nat) (hn:n≤l.length) (hl:l.length<9223372036854775807):DCalls Tryz.prog 57 [bstr l,int n] (int (n+skip (l.drop n):Nat)):=by
 refine sx Tryz.func57 (by kernel_rfl) ?_
 conv=>whnf
 refine⟨[],Nat,fun k=>[(1,int k)],fun _=>[],fun k=>n≤k∧k≤l.length∧k+skip (l.drop k)=n+skip (l.drop n),fun k=>l.length - k,n,⟨Nat.le_refl _,hn,rfl⟩,?_,?_⟩
 ·refine⟨rfl,?_,?_⟩<;>repeat' (first|exact trivial|exact rfl|refine and_rfl ?_|refine and_two ?_ ?_)
 rintro k ⟨hk1,hk2,hk⟩
 conv=>whnf
 rintro(_|_) h2
 ·simp[mk_size] at h2
  rw[List.drop_eq_nil_of_le h2] at hk
  conv=>whnf
  exact fin_int (by simp[skp] at hk;omega)
 simp[mk_size] at h2
 have hsk:skip (l.drop k)=skp false (l[k]::l.drop (k+1)):=by rw[drop_cons h2]
 have blank:isBl l[k]=true→(k+1)+skip (l.drop (k+1))=n+skip (l.drop n):=by
  intro h;rw[hsk,skp_bl h] at hk;show k+1+skp false _=_;omega
 conv=>whnf
 refine⟨by omega,_,mk_at h2,?_⟩
 conv=>whnf
 rintro(_|_) h3
 rotate_left
 ·conv=>whnf
  refine⟨k+1,⟨by omega,h2,blank (by rw[isBl_int];simp at*;omega)⟩,by dsimp only;omega,?_⟩
  refine⟨rfl,?_,?_⟩<;>repeat' (first|exact trivial|exact rfl|refine and_rfl ?_|refine and_val (wrap_succ (by omega)) ?_|refine and_two ?_ ?_)
 conv=>whnf
 refine⟨by omega,_,mk_at h2,?_⟩
 conv=>whnf
 rintro(_|_) h4
 rotate_left
 ·conv=>whnf
  refine⟨k+1,⟨by omega,h2,blank (by rw[isBl_int];simp at*;omega)⟩,by dsimp only;omega,?_⟩
  refine⟨rfl,?_,?_⟩<;>repeat' (first|exact trivial|exact rfl|refine and_rfl ?_|refine and_val (wrap_succ (by omega)) ?_|refine and_two ?_ ?_)
 conv=>whnf
 refine⟨by omega,_,mk_at h2,?_⟩
 conv=>whnf
 rintro(_|_) h5
 rotate_left
 ·conv=>whnf
  refine⟨k+1,⟨by omega,h2,blank (by rw[isBl_int];simp at*;omega)⟩,by dsimp only;omega,?_⟩
  refine⟨rfl,?_,?_⟩<;>repeat' (first|exact trivial|exact rfl|refine and_rfl ?_|refine and_val (wrap_succ (by omega)) ?_|refine and_two ?_ ?_)
 have hnb:isBl l[k]=false:=by rw[isBl_int];simp at*;omega
 clear blank
 have stop:(l[k]==47&&(l.drop (k+1)).head? ==some 47)=false→k=n+skip (l.drop n):=by
  intro h;rw[hsk,skp_end hnb h] at hk;omega
 conv=>whnf
 rw[wrap_succ (by omega)]
 rintro(_|_) h6
 rotate_left
 ·simp[mk_size] at h6
  conv=>whnf
  exact fin_int (by rw[←stop (by rw[List.drop_eq_nil_of_le (by omega)];simp)])
 simp[mk_size] at h6
 have hhd:(l.drop (k+1)).head?=some l[k+1]:=by rw[drop_cons (by omega)];rfl
 conv=>whnf
 refine⟨by omega,_,mk_at h2,?_⟩
 conv=>whnf
 rintro(_|_) h7
 rotate_left
 ·have h7':(l[k]==47)=false:=by rw[u8_eq];simp at*;omega
  conv=>whnf
  exact fin_int (by rw[←stop (by rw[h7'];rfl)])
 have h7' : l[k] = 47 := by have:(l[k]==47)=true:=by rw[u8_eq];simp at*;omega
                            simpa using this
 conv=>whnf
 refine⟨by rw[wrap_succ (by omega)];omega,_,(by rw[wrap_succ (by omega)];exact mk_at (by omega)),?_⟩
 conv=>whnf
 rintro(_|_) h8
 rotate_left
 ·have h8':(l[k+1]==47)=false:=by rw[u8_eq];simp at*;omega
  conv=>whnf
  exact fin_int (by rw[←stop (by rw[hhd];simp at h8'⊢;intro _;exact h8')])
 have h8' : l[k + 1] = 47 := by have:(l[k+1]==47)=true:=by rw[u8_eq];simp at*;omega
                                simpa using this
 have hcom:k+skp true (l.drop k)=n+skip (l.drop n):=by
  rw[hsk,h7',skp_com (by rw[hhd,h8'])] at hk
  rw[drop_cons h2,h7',skp_in rfl];omega
 clear stop hsk
 conv=>whnf
 refine⟨[],Nat,fun j=>[(1,int j)],fun _=>[],fun j=>k≤j∧j≤l.length∧j+skp true (l.drop j)=n+skip (l.drop n),fun j=>l.length - j,k,⟨Nat.le_refl _,hk2,hcom⟩,?_,?_⟩
 ·refine⟨rfl,?_,?_⟩<;>repeat' (first|exact trivial|exact rfl|refine and_rfl ?_|refine and_two ?_ ?_)
 rintro j ⟨hj1,hj2,hj⟩
 have fin:¬(j<l.length∧¬l[j]?=some 10)→n≤j∧j≤l.length∧j+skip (l.drop j)=n+skip (l.drop n)∧k<j:=by
  intro h
  have hkj:k<j:=by
   rcases Nat.lt_or_ge k j with h0|h0
   ·exact h0
   ·have:j=k:=by omega
    subst this
    exact absurd ⟨h2,by rw[List.getElem?_eq_getElem h2,h7'];simp⟩ h
  refine⟨by omega,hj2,?_,hkj⟩
  rcases Nat.lt_or_ge j l.length with h1|h1
  ·have:l[j]?=some 10:=Classical.not_not.1 fun h3=>h ⟨h1,h3⟩
   rw[List.getElem?_eq_getElem h1] at this
   rw[drop_cons h1,Option.some.inj this,skp_nl] at hj
   rw[drop_cons h1,Option.some.inj this];exact hj
  ·rw[List.drop_eq_nil_of_le h1] at hj⊢;exact hj
 conv=>whnf
 rintro(_|_) h9
 ·simp[mk_size] at h9
  obtain⟨f1,f2,f3,f4⟩:=fin (by omega)
  conv=>whnf
  refine⟨j,⟨f1,f2,f3⟩,by dsimp only;omega,?_⟩
  refine⟨rfl,?_,?_⟩<;>repeat' (first|exact trivial|exact rfl|refine and_rfl ?_|refine and_val (wrap_succ (by omega)) ?_|refine and_two ?_ ?_)
 simp[mk_size] at h9
 conv=>whnf
 refine⟨by omega,_,mk_at h9,?_⟩
 conv=>whnf
 rintro(_|_) h10
 ·have:(l[j]==10)=true:=by rw[u8_eq];simp at*;omega
  obtain⟨f1,f2,f3,f4⟩:=fin (by rw[List.getElem?_eq_getElem h9];simp at this;simp[this])
  conv=>whnf
  refine⟨j,⟨f1,f2,f3⟩,by dsimp only;omega,?_⟩
  refine⟨rfl,?_,?_⟩<;>repeat' (first|exact trivial|exact rfl|refine and_rfl ?_|refine and_val (wrap_succ (by omega)) ?_|refine and_two ?_ ?_)
 have h10':(l[j]==10)=false:=by rw[u8_eq];simp at*;omega
 conv=>whnf
 refine⟨j+1,⟨by omega,by omega,by rw[drop_cons h9,skp_in h10'] at hj;omega⟩,by dsimp only;omega,?_⟩
 refine⟨rfl,?_,?_⟩<;>repeat' (first|exact trivial|exact rfl|refine and_rfl ?_|refine and_val (wrap_succ (by omega)) ?_|refine and_two ?_ ?_)
end Go.Proofs.YtglndfgmlminpaaGreatDoor
