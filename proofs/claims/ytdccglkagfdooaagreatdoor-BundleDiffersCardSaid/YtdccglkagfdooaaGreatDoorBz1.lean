/- Texts joined by pack.py: XSxA -/
import Derived.Test.YtdccglkagfdooaaGreatDoorBz0
namespace Go.Proofs.YtdccglkagfdooaaGreatDoor
open Go.RowKit
inductive D where
 |cv (v:Value)
 |sl (sz:Nat) (xs:List (List D))
inductive V where
 |un
 |cv (v:Value)
 |kb (b:Bool)
 |sl (f:Bool) (sz:Nat) (xs:List (List D))
 |el (f:Bool) (cells:List D) (o:Nat)
 |bx (n o:Nat)
 |ow (n k:Nat)
 |oq (n k sz i o:Nat)
 |vw (n k sz lo hi:Nat)
 |ag (cs:List V)
 |tu (vs:List V)
 |fn (f n:Nat) (cs:List V)
 |ic (t n:Nat)
def hdv:Value→Value
 | .agg us=>us.getD 0 undef
 |v=>v
def at1:Value→Option Nat
 | .pointer (some a)=>some a.block
 | .slice (some a) _ _=>some a.block
 | .map (some b)=>some b
 |_=>none
def At (v:Value) (g:Nat):Prop:=
 match v with
 | .agg us=>∃u,u∈us.toList∧at1 u=some g
 |v=>at1 v=some g
abbrev Sets:=Bool→Nat→Prop
structure Asrt where
 ok:(Nat→Prop)→World→Value→List Value→Prop
 mono:∀{S S':Nat→Prop} {w w':World} {v:Value} {us:List Value},(∀g,S g→S' g)→(∀g,S g→w'.heap[g]?=w.heap[g]?)→(∀g,At v g→w'.heap[g]?=w.heap[g]?)→ok S w v us→ok S' w' v us
 one:∀{S:Nat→Prop} {w:World} {fs:Array Value} {us:List Value},ok S w (.agg fs) us→(fs.getD 0 undef).oneCell'=true
inductive Bk where
 |box (cs:List V) (ty:Option Nat:=none)
 |row (k E sz:Nat) (f:Bool) (xs:List (List D))
 |fz (k E:Nat) (bs:List UInt8)
 |asr (k:Nat) (A:Asrt) (outs:List V)
structure St where
 t:List V
 m:List (Option Bk)
inductive TK where
 |int (k:IntKind)|bool|string|slice (e:Nat)|ptr (e:Nat)|struct (fs:List (Nat×Nat))|array (n e:Nat)|map|other
structure TI where
 size:Nat
 bytes:Nat
 agg:Bool
 zero:List Value
 kd:TK
structure Tab where
 get:Nat→Option TI
 fm:Nat→Option Bool
instance:CoeFun Tab (fun _=>Nat→Option TI):=⟨Tab.get⟩
def D.v (f:Bool):D→V
 | .cv v=> .cv v
 | .sl sz xs=> .sl f sz xs
def forceC (v:Value) (K:Value→Prop):Prop:=
 match v with
 | .bool b=>K (.bool b)
 | .int k n=>K (.int k n)
 | .string s=>K (.string s)
 | .slice a n c=>K (.slice a n c)
 | .func f a b=>K (.func f a b)
 |v=>K v
def V.k1 (v:V) (K:V→Prop):Prop:=
 match v with
 | .un=>K .un
 | .cv v=>forceC v fun v=>K (.cv v)
 | .kb b=>K (.kb b)
 | .sl f sz xs=>K (.sl f sz xs)
 | .el f cs off=>K (.el f cs off)
 | .bx n off=>K (.bx n off)
 | .ow n k=>K (.ow n k)
 | .oq n k s i off=>K (.oq n k s i off)
 | .vw n k s lo hi=>K (.vw n k s lo hi)
 | .ag cs=>K (.ag cs)
 | .tu vs=>K (.tu vs)
 | .fn f n cs=>K (.fn f n cs)
 | .ic t n=>K (.ic t n)
def forceL:List V→(List V→Prop)→Prop
 |[],K=>K []
 |v::l,K=>v.k1 fun v=>forceL l fun l=>K (v::l)
def V.k2 (v:V) (K:V→Prop):Prop:=
 match v with
 | .ag cs=>forceL cs fun cs=>K (.ag cs)
 | .fn f n cs=>forceL cs fun cs=>K (.fn f n cs)
 |v=>v.k1 K
def forceL2:List V→(List V→Prop)→Prop
 |[],K=>K []
 |v::l,K=>v.k2 fun v=>forceL2 l fun l=>K (v::l)
def V.k (v:V) (K:V→Prop):Prop:=
 match v with
 | .ag cs=>forceL cs fun cs=>K (.ag cs)
 | .fn f n cs=>forceL cs fun cs=>K (.fn f n cs)
 | .tu vs=>forceL2 vs fun vs=>K (.tu vs)
 |v=>v.k1 K
def D.k1 (d:D) (K:D→Prop):Prop:=
 match d with
 | .cv v=>forceC v fun v=>K (.cv v)
 | .sl sz xs=>K (.sl sz xs)
def forceD:List D→(List D→Prop)→Prop
 |[],K=>K []
 |v::l,K=>v.k1 fun v=>forceD l fun l=>K (v::l)
def setK {α:Type}:List α→Nat→α→(List α→Prop)→Prop
 |[],_,_,K=>K []
 |_::l,0,v,K=>K (v::l)
 |x::l,i+1,v,K=>setK l i v fun l=>K (x::l)
def V.cells:V→List V
 | .ag cs=>cs
 | .cv v=>v.cells.toList.map .cv
 |v=>[v]
def V.ofConst:Value→V
 | .agg cs=> .ag (cs.toList.map .cv)
 | .bool b=> .kb b
 |v=> .cv v
def V.nf:V→V
 | .kb b=> .cv (.bool b)
 |v=>v
def ev (t:List V):Operand→V
 | .tmp i=>t.getD i .un
 | .const v=>V.ofConst v
 | .global g=> .cv (.pointer (some ⟨g,0,none⟩))
 | .func f=> .cv (.func (.func f) #[] #[])
def evN (t:List V) (x:Operand):V:=(ev t x).nf
def V.one:V→Bool
 | .un| .ag _| .tu _| .kb _=>false
 | .cv v=>v.oneCell'
 |_=>true
def allOne:List V→Bool
 |[]=>true
 |v::l=>v.one&&allOne l
def V.d:V→Option (D×Bool)
 | .cv v=>if v.oneCell' then some (.cv v,true) else none
 | .sl f sz xs=>some (.sl sz xs,f)
 |_=>none
def toDs:List V→Option (List D×Bool)
 |[]=>some ([],true)
 |v::l=>match v.d,toDs l with
  |some (d,f),some (ds,g)=>some (d::ds,f&&g)
  |_,_=>none
def V.pass1 (m:List (Option Bk)):V→V
 | .cv v=> .cv v
 | .kb b=> .cv (.bool b)
 | .sl _ sz xs=> .sl true sz xs
 | .ow n k=>match m[n]? with
  |some (some (.row k' _ sz _ xs))=>if k=k' then .sl true sz xs else .un
  |_=> .un
 | .vw n k s lo hi=>match m[n]? with
  |some (some (.row k' _ sz _ xs))=>if k=k'∧s=sz then .sl true sz ((xs.take hi).drop lo) else .un
  |_=> .un
 |_=> .un
def V.pass (m:List (Option Bk)):V→V
 | .ag cs=> .ag (cs.map (V.pass1 m))
 |v=>v.pass1 m
inductive RelD (S:Nat→Prop) (w:World):D→Value→Prop
 |cv (v:Value) (h1:v.oneCell'=true):RelD S w (.cv v) v
 |nil (sz:Nat) (A:Option Addr) (cap:Nat):RelD S w (.sl sz []) (.slice A 0 cap)
 | sl (sz:Nat) (xs:List (List D)) (b o cap:Nat) (u:Nat→Nat→Value) (hS:S b) (hx:∀x∈xs,x.length=sz) (hcap:xs.length≤cap)
   (hc:∀i j d,(xs[i]?.bind fun x=>x[j]?)=some d→w.cell? ⟨b,o+i*sz+j,none⟩=some (u i j))
   (hd:∀i j d,(xs[i]?.bind fun x=>x[j]?)=some d→RelD S w d (u i j)):RelD S w (.sl sz xs) (.slice (some ⟨b,o,none⟩) xs.length cap)
def isPtr:Value→Bool
 | .pointer (some _)=>true
 |_=>false
abbrev Names:=Nat→Option (Nat×Value)
inductive RelV (N:Names) (S:Sets) (w:World):V→Value→Prop
 |un (v:Value):RelV N S w .un v
 |cv (v:Value):RelV N S w (.cv v) v
 |kb (b:Bool):RelV N S w (.kb b) (.bool b)
 |sl (f:Bool) (sz:Nat) (xs:List (List D)) (v:Value) (h:RelD (S f) w (.sl sz xs) v):RelV N S w (.sl f sz xs) v
 |el (f:Bool) (cells:List D) (o b off:Nat) (hS:S f b) (u:Nat→Value) (hc:∀j d,cells[j]?=some d→w.cell? ⟨b,off+j,none⟩=some (u j)∧RelD (S f) w d (u j)):RelV N S w (.el f cells o) (.pointer (some ⟨b,off+o,none⟩))
 |bx (n o b:Nat) (hn:N n=some (0,.pointer (some ⟨b,0,none⟩))):RelV N S w (.bx n o) (.pointer (some ⟨b,o,none⟩))
 |ow (n k:Nat) (u:Value) (hu:u.oneCell'=true) (hn:∃k' v,N n=some (k',v)∧k≤k'∧(k=k'→u=hdv v)):RelV N S w (.ow n k) u
 |oq (n k sz i o:Nat) (u:Value) (hu:isPtr u=true) (hn:∃k' v,N n=some (k',v)∧k≤k'∧(k=k'→∃b len cap,hdv v= .slice (some ⟨b,0,none⟩) len cap∧u= .pointer (some ⟨b,i*sz+o,none⟩))):RelV N S w (.oq n k sz i o) u
 |vw (n k sz lo hi:Nat) (u:Value) (hu:u.oneCell'=true) (hn:∃k' v,N n=some (k',v)∧k≤k'∧(k=k'→∃A len cap A',hdv v= .slice A len cap∧lo≤hi∧hi≤len∧u= .slice A' (hi - lo) (cap - lo)∧(lo<hi∨lo=0→A'=A.map (·.add (lo*sz))))):RelV N S w (.vw n k sz lo hi) u
 |ag (cs:List V) (us:Array Value) (hl:cs.length=us.size) (h:∀i v,cs[i]?=some v→RelV N S w v (us.getD i undef)):RelV N S w (.ag cs) (.agg us)
 |tu (cs:List V) (us:Array Value) (hl:cs.length=us.size) (h:∀i v,cs[i]?=some v→RelV N S w v (us.getD i undef)):RelV N S w (.tu cs) (.tuple us)
 |fn (f n:Nat) (cs:List V) (us vs:Array Value) (hn:n=us.size) (hl:cs.length=us.size+vs.size) (h:∀i v,cs[i]?=some v→RelV N S w v ((us++vs).getD i undef)):RelV N S w (.fn f n cs) (.func (.func f) us vs)
 |ic (t n b:Nat) (hn:N n=some (0,.pointer (some ⟨b,0,none⟩))):RelV N S w (.ic t n) (.iface t (.pointer (some ⟨b,0,none⟩)))
def RelL (N:Names) (S:Sets) (w:World) (vs:List V) (us:List Value):Prop:=vs.length=us.length∧∀i v,vs[i]?=some v→RelV N S w v (us.getD i undef)
def DCalls (P:Program) (f:FuncId) (args:List V) (res:V):Prop:=
 (∃fn,P.funcs[f]?=some fn∧(fn.name== "runtime.NumGoroutine")=false∧fn.body.isNone=false)∧
 ∀(w:World) (vs:List Value),ginv w→RelL (fun _=>none) (fun _ b=>b<w.heap.size) w args vs→
  Calls P f vs.toArray w fun e w'=>∃v,e= .returned v∧RelV (fun _=>none) (fun _ b=>w.heap.size≤b∧b<w'.heap.size) w' res v∧Below w.heap.size w w'
structure Low (B:Nat→Prop) (w w':World):Prop where
 os:w'.os=w.os
 tape:w'.tape=w.tape
 output:w'.output=w.output
 size:w.heap.size≤w'.heap.size
 block:∀k,B k→w'.heap[k]?=w.heap[k]?
def Holds (H:Nat) (N:Names) (S:Sets) (w:World) (n:Nat):Bk→Prop
 | .box cs bt=>∃g ty us,N n=some (0,.pointer (some ⟨g,0,none⟩))∧w.heap[g]?=some (.cells us (bt.getD ty) (0,0))∧cs.length=us.size∧∀i v,cs[i]?=some v→RelV N S w v (us.getD i undef)
 | .row k E sz f xs=>∃v us,N n=some (k,v)∧w.ownsRow 0 E sz v xs.length us∧(∀x∈xs,x.length=sz)∧0<sz∧
   (∀i j d,(xs[i]?.bind fun x=>x[j]?)=some d→∃u,us[i*sz+j]?=some u∧RelD (S f) w d u)∧(f=true→∀g,At v g→H≤g)
 | .fz k E bs=>∃g cap us fr,N n=some (k,.slice (some ⟨g,0,none⟩) bs.length cap)∧w.heap[g]?=some (.cells us E fr)∧bs.length≤cap∧cap≤maxLen∧us.size=cap∧∀(j:Nat) (x:UInt8),bs[j]?=some x→us[j]?=some (Value.int .u8 (x.toNat:Nat))
 | .asr k A outs=>∃fs us,N n=some (k,.agg fs)∧RelL N S w outs us∧A.ok (S false) w (.agg fs) us
structure Fr where
 keep:Nat→Prop
 old:Nat→Prop
 lent:Nat→Option Addr
 ref:World
 ghost:List (V×Value):=[]
 aside:Nat→Prop:=fun _=>False
 defers:List Deferred:=[]
 stay:Nat→Option (Nat→Prop):=fun _=>none
 free:Bool:=false
def GI (B:Fr):Prop:=ginv B.ref∧∀g,glob g→B.keep g
structure More (B:Fr) (w0:World) (N:Names) (S:Sets) (w:World):Prop where
 size:w0.heap.size≤w.heap.size
 ghost:∀p∈B.ghost,RelV N S w p.1 p.2
 aside:∀g,B.aside g→B.keep g∧∀f,¬S f g
 inv:GI B
structure Sat (B:Fr) (w0:World) (N:Names) (S:Sets) (t:List V) (m:List (Option Bk)) (a:Act) (w:World):Prop where
 low:Low B.keep B.ref w
 nodef:a.defers=B.defers
 tmps:RelL N S w t a.tmps.toList
 blk:∀k b,m[k]?=some (some b)→Holds w0.heap.size N S w k b
 non:∀k,(∀b,m[k]?≠some (some b))→N k=none
 apart:∀j k x y u v g,N j=some (x,u)→N k=some (y,v)→At u g→At v g→j=k
 data:∀f g,S f g→g<w.heap.size∧∀k x v,N k=some (x,v)→¬At v g
 fresh:∀g,S true g→S false g∧w0.heap.size≤g
 own:∀k x v g,N k=some (x,v)→At v g→¬B.keep g∧g<w.heap.size
 base:∀g,B.keep g→g<w.heap.size
 old:∀g,S false g→w0.heap.size≤g∨B.old g
 lent:∀n g,B.lent n=some g→t.length≤n∧n<t.length+16∧N n=some (0,.pointer (some g))
 more:More B w0 N S w
 stay:∀n og,B.stay n=some og→(B.free=true∨(t.length≤n∧n<t.length+16))∧∃x v,N n=some (x,v)∧((∃us,v= .agg us)∨∀g,At v g→og g∨w0.heap.size≤g)
def OpOk (P:Program) (o:Oper) (a:Act) (w:World) (R:Value→World→Prop):Prop:=
 ∀Q,o.wp P a w (fun a' w'=>∃u,a'=a.put o.dst u∧R u w') Q
def OpTr (P:Program) (o:Oper) (E:Operand→V) (m:List (Option Bk)) (v:V) (m':List (Option Bk)):Prop:=
 ∀(B:Fr) (w0:World) (N:Names) (S:Sets) (t:List V) (a:Act) (w:World),Sat B w0 N S t m a w→(∀x∈o.op.operands.toList,RelV N S w (E x) (a.eval x))→
  OpOk P o a w fun u w'=>∃N' S',Sat B w0 N' S' t m' a w'∧RelV N' S' w' v u
def V.isC:V→Bool
 | .cv _=>true
 |_=>false
def allC:List V→Bool
 |[]=>true
 |v::l=>v.isC&&allC l
def EqOk (P:Program) (ty:TypeId) (x y:List V) (t:Bool):Prop:=
 ∀(w:World) (us vs:Array Value),RelV (fun _=>none) (fun _ _=>False) w (.ag x) (.agg us)→RelV (fun _=>none) (fun _ _=>False) w (.ag y) (.agg vs)→
  (Op.equal ty (.agg us) (.agg vs)).run P w= .ok t w∧P.eqGuardType P.depth ty=false
def binC (op:BinOp) (x y:Value) (K:Value→Prop):Prop:=
 match x,y with
 | .int k a,.int k' b=>
  match op with
  | .shl=>0≤b∧K (.int k (k.wrap (a*2 ^ (min b.toNat k.bits))))
  | .shr=>0≤b∧K (.int k (a.fdiv (2 ^ (min b.toNat k.bits))))
  |op=>match decide (k=k') with
  |false=>False
  |true=>
   match op with
   | .add=>K (.int k (k.wrap (a+b)))
   | .sub=>K (.int k (k.wrap (a - b)))
   | .mul=>K (.int k (k.wrap (a*b)))
   | .quo=>b≠0∧K (.int k (k.wrap (a.tdiv b)))
   | .rem=>b≠0∧K (.int k (a.tmod b))
   | .and=>K (.int k (k.wrap ((BitVec.ofInt k.bits a&&& BitVec.ofInt k.bits b).toNat:Nat)))
   | .or=>K (.int k (k.wrap ((BitVec.ofInt k.bits a|||BitVec.ofInt k.bits b).toNat:Nat)))
   | .xor=>K (.int k (k.wrap ((BitVec.ofInt k.bits a ^^^ BitVec.ofInt k.bits b).toNat:Nat)))
   | .eql=>K (.bool (a==b))
   | .neq=>K (.bool (a !=b))
   | .lss=>K (.bool (decide (a<b)))
   | .leq=>K (.bool (decide (a≤b)))
   | .gtr=>K (.bool (decide (a>b)))
   | .geq=>K (.bool (decide (a≥b)))
   |_=>False
 | .string a,.string b=>
  match op with
  | .add=>a.size+b.size≤9223372036854775807∧K (.string (a++b))
  | .eql=>K (.bool (a.toList==b.toList))
  | .neq=>K (.bool !(a.toList==b.toList))
  | .lss=>K (.bool (Op.bytesLess a.toList b.toList))
  | .leq=>K (.bool (Op.bytesLess a.toList b.toList||(a.toList==b.toList)))
  | .gtr=>K (.bool !(Op.bytesLess a.toList b.toList||(a.toList==b.toList)))
  | .geq=>K (.bool !(Op.bytesLess a.toList b.toList))
  |_=>False
 |_,_=>False
def binB (op:BinOp) (x y:Bool) (K:Value→Prop):Prop:=
 match op with
 | .eql=>K (.bool (x==y))
 | .neq=>K (.bool (!(x==y)))
 |_=>False
def fillV:List V→Nat→List V→Option (List V)
 |cs,0,us=>if us.length≤cs.length then some (us++cs.drop us.length) else none
 |[],_+1,_=>none
 |c::cs,o+1,us=>(fillV cs o us).map (c:: ·)
def buildV (fs:List (Nat×Nat)) (T:Tab) (E:Operand→V):List V→List (Nat×Operand)→(List V→Prop)→Prop
 |cs,[],K=>K cs
 |cs,(i,x)::ps,K=>
  match fs[i]? with
  |none=>False
  |some (off,ty)=>
   match T ty with
   |none=>False
   |some ti=>
    match(match E x with| .un=>false|_=>true)&&(E x).cells.length==ti.size,fillV cs off (E x).cells with
    |true,some cs'=>forceL cs' fun cs'=>buildV fs T E cs' ps K
    |_,_=>False
def kdOf:TypeDesc→TK
 | .int k=> .int k
 | .bool=> .bool
 | .string=> .string
 | .slice e=> .slice e
 | .pointer e=> .ptr e
 | .struct fs=> .struct (fs.toList.map fun f=>(f.offset,f.type))
 | .array n e=> .array n e
 | .map _ _=> .map
 |_=> .other
def TI.ok (i:TI):Bool:=
 (i.agg==match i.kd with| .struct _| .array _ _=>true|_=>false)&&(i.zero.length==i.size)&&i.zero.all (·.oneCell')
def TabOk (P:Program) (T:Tab) (n:Nat):Prop:=
 (List.range n).map (fun t=>(T t).bind fun _=>(P.info? t).map fun j=>(j.size,j.bytes,j.zero.map (·.cells.toList),(P.underlying t).map kdOf,true))=
 (List.range n).map fun t=>(T t).map fun i=>(i.size,i.bytes,some i.zero,some i.kd,i.ok)
def newK (dst:Option Tmp) (b:Bk) (v:Nat→V) (m:List (Option Bk)) (K:V→List (Option Bk)→Prop):Prop:=
 match dst with
 |none=>False
 |some d=>match m[d]? with
  |some none=>setK m d (some b) fun m'=>K (v d) m'
  |_=>False
def sizeOk (T:Tab) (ty sz:Nat):Bool:=match T ty with|some i=>i.size==sz|none=>false
def loadK (i:TI) (cs:List V) (off:Nat) (K:V→Prop):Prop:=
 if i.agg then(if off+i.size≤cs.length then(V.ag ((cs.drop off).take i.size)).k K else False)
 else match cs[off]? with
  |some v=>v.k K
  |none=>False
def czs (T:Tab):Nat→Nat→List Nat
 |0,_=>[]
 |n+1,ty=>match T ty with
  |some ⟨_,_,_,_,.slice e⟩=>[match T e with|some i=>i.size|none=>0]
  |some ⟨_,_,_,_,.struct fs⟩=>fs.flatMap fun f=>czs T n f.2
  |some ⟨s,_,_,_,_⟩=>List.replicate s 0
  |none=>[]
def V.z1 (n:Nat):V→V
 | .cv (.slice none 0 0)=>match n with
  |0=> .cv (.slice none 0 0)
  |n=> .sl true n []
 |v=>v
def zL:List V→List Nat→List V
 |v::l,n::ns=>v.z1 n::zL l ns
 |l,_=>l
def V.z (ns:List Nat):V→V
 | .ag cs=> .ag (zL cs ns)
 |v=>match ns with
  |n::_=>v.z1 n
  |[]=>v
def passL (T:Tab) (m:List (Option Bk)):List Operand→List TypeId→(Operand→V)→(List V→Prop)→Prop
 |[],_,_,K=>K []
 |x::l,ty::tys,E,K=>(((E x).pass m).z (czs T 5 ty)).k fun v=>passL T m l tys E fun vs=>K (v::vs)
 |x::l,[],E,K=>((E x).pass m).k fun v=>passL T m l [] E fun vs=>K (v::vs)
def Flat (xs:List (List D)):Prop:=∀x∈xs,∀d∈x,∃v:Value,d= .cv v
def V.elems (m:List (Option Bk)) (sz:Nat):V→Option (List (List D)×Bool)
 | .cv (.slice none 0 0)=>some ([],true)
 | .sl f s xs=>if s=sz then some (xs,f) else none
 | .ow n k=>match m[n]? with
  |some (some (.row k' _ s f xs))=>if k=k'∧s=sz then some (xs,f) else none
  |_=>none
 | .vw n k s' lo hi=>match m[n]? with
  |some (some (.row k' _ s f xs))=>if k=k'∧s=sz∧s'=s then some ((xs.take hi).drop lo,f) else none
  |_=>none
 |_=>none
def callK (P:Program) (f:FuncId) (args:List V) (m:List (Option Bk)) (K:V→List (Option Bk)→Prop):Prop:=
 ∃res,DCalls P f args res∧res.k fun r=>K r m
def lenK (v:V) (m:List (Option Bk)) (K:V→List (Option Bk)→Prop):Prop:=
 match v with
 | .cv (.slice none 0 0)=>K (.cv (.int .i64 ((0:Nat):Int))) m
 | .sl _ _ xs=>K (.cv (.int .i64 (xs.length:Nat))) m
 | .ow n k=>match m[n]? with
  |some (some (.row k' _ _ _ xs))=>if k=k' then K (.cv (.int .i64 (xs.length:Nat))) m else False
  |_=>False
 | .vw n k _ lo hi=>match m[n]? with
  |some (some (.row k' _ _ _ _))=>if k=k' then K (.cv (.int .i64 ((hi - lo:Nat):Int))) m else False
  |_=>False
 |_=>False
def consts (E:Operand→V):List Operand→Option (List Value)
 |[]=>some []
 |x::l=>match E x,consts E l with
  | .cv v,some vs=>some (v::vs)
  |_,_=>none
def optInt (E:Operand→V) (d:Int):Option Operand→Option Int
 |none=>some d
 |some x=>match E x with
  | .cv (.int _ n)=>some n
  |_=>none
def elemsD (sz:Nat) (E:Operand→V):List (List D)→Bool→List (Nat×Operand)→(List (List D)→Bool→Prop)→Prop
 |xs,f,[],K=>K xs f
 |xs,f,(i,x)::ps,K=>match toDs (E x).cells with
  |some (ds,g)=>if i<xs.length∧ds.length=sz then(match f&&g with
   |true=>forceD ds fun ds=>setK xs i ds fun xs=>elemsD sz E xs true ps K
   |false=>forceD ds fun ds=>setK xs i ds fun xs=>elemsD sz E xs false ps K) else False
  |none=>False
def flagK (f fr:Bool) (ys:List (List D)) (K:Bool→Prop):Prop:=
 match f,fr with
 |true,true=>K true
 |true,false=>Flat ys∧K true
 |false,_=>K false
def forceAll:List V→(List V→Prop)→Prop
 |[],K=>K []
 |v::l,K=>v.k2 fun v=>forceAll l fun l=>K (v::l)
def forceM:List (Option Bk)→(List (Option Bk)→Prop)→Prop
 |[],K=>K []
 |none::l,K=>forceM l fun l=>K (none::l)
 |some (.box cs bt)::l,K=>forceL cs fun cs=>forceM l fun l=>K (some (.box cs bt)::l)
 |some (.row k e s f xs)::l,K=>forceM l fun l=>K (some (.row k e s f xs)::l)
 |some (.fz k e bs)::l,K=>forceM l fun l=>K (some (.fz k e bs)::l)
 |some (.asr k A outs)::l,K=>forceL outs fun outs=>forceM l fun l=>K (some (.asr k A outs)::l)
def bytesOf:List (List D)→Option (List UInt8)
 |[]=>some []
 |[.cv (.int .u8 n)]::l=>match decide (0≤n∧n<256),bytesOf l with
  |true,some b=>some (UInt8.ofNat n.toNat::b)
  |_,_=>none
 |_=>none
def Up (m m2:List (Option Bk)):Prop:=∀(n:Nat) (b:Bk),m[n]?=some (some b)→m2[n]?=some (some b)
def OpRd (P:Program) (o:Oper) (E:Operand→V) (m:List (Option Bk)) (v:V):Prop:=
 ∀(B:Fr) (w0:World) (N:Names) (S:Sets) (t:List V) (m2:List (Option Bk)) (a:Act) (w:World),Sat B w0 N S t m2 a w→Up m m2→(∀x∈o.op.operands.toList,RelV N S w (E x) (a.eval x))→
  OpOk P o a w fun u w'=>w'=w∧RelV N S w v u
def OpRc (P:Program) (o:Oper) (E:Operand→V) (m:List (Option Bk)) (v:V):Prop:=∀m2,Up m m2→OpTr P o E m2 v m2
def rdK (P:Program) (o:Oper) (E:Operand→V) (m:List (Option Bk)) (K:V→List (Option Bk)→Prop):Prop:=∃v,OpRc P o E m v∧v.k fun v=>K v m
def exK (P:Program) (o:Oper) (E:Operand→V) (m:List (Option Bk)) (K:V→List (Option Bk)→Prop):Prop:=∃v m',OpTr P o E m v m'∧v.k fun v=>forceM m' fun m'=>K v m'
def nilB:Operand→Bool
 | .const (.map none)=>true
 |_=>false
def isAs (m:List (Option Bk)) (n k:Nat):Bool:=match m[n]? with
 |some (some (.asr k' _ _))=>Nat.beq k k'
 |_=>false
def aCore (P:Program) (T:Tab) (o:Oper) (E:Operand→V) (m:List (Option Bk)) (K:V→List (Option Bk)→Prop):Prop:=
 match o.op with
 | .move x| .assign x=>K (E x) m
 | .pick c x y=>match E c with
  | .cv (.bool b)=>∀b',b=b'→K (match b' with|true=>E x|false=>E y) m
  |_=>False
 | .alloc ty=>match T ty with
  |some i=>(match T.fm (3000000+ty) with
   |none=>newK o.dst (.box (i.zero.map .cv) none) (fun d=> .bx d 0) m K
   |some _=>newK o.dst (.box (i.zero.map .cv) (some ty)) (fun d=> .bx d 0) m K)
  |none=>False
 | .box ty x=>match E x with
  | .un=>False
  |v=>forceL v.cells fun cs=>(match T.fm (3000000+ty) with
   |none=>newK o.dst (.box cs none) (fun d=> .bx d 0) m K
   |some _=>newK o.dst (.box cs (some ty)) (fun d=> .bx d 0) m K)
 | .load ty x=>match T.fm (4000000+ty) with
  |some _=>exK P o E m K
  |none=>match T ty with
  |none=>False
  |some i=>match E x with
   | .bx n off=>match m[n]? with
    |some (some (.box cs _))=>loadK i cs off fun v=>K v m
    |_=>False
   | .el f cells off=>loadK i (cells.map (D.v f)) off fun v=>K v m
   | .oq n k sz j off=>match m[n]? with
    |some (some (.row k' _ s f xs))=>if k=k'∧s=sz then(∃cells,xs[j]?=some cells∧forceD cells fun cells=>loadK i (cells.map (D.v f)) off fun v=>K v m) else False
    |some (some (.asr ..))=>rdK P o E m K
    |_=>False
   | .cv (.pointer (some ⟨g,off,none⟩))=>match gcells g with
    |some cs=>loadK i (cs.map .cv) off fun v=>K v m
    |none=>False
   |_=>False
 | .store ty x y=>match T ty with
  |none=>False
  |some i=>match E x with
   | .bx n off=>match m[n]? with
    |some (some (.box cs bt))=>
     if allOne (E y).cells&&(E y).cells.length==i.size then
      match fillV cs off (E y).cells with
      |some cs'=>forceL cs' fun cs'=>setK m n (some (.box cs' bt)) fun m'=>K .un m'
      |none=>False
     else False
    |_=>False
   | .oq n k sz j off=>match m[n]? with
    |some (some (.row k' E' s f xs))=>
     if k=k'∧s=sz then
      match toDs (E y).cells with
      |some (ds,g)=>if ds.length==i.size then(match f&&g with
       |true=>∃cells,xs[j]?=some cells∧off+ds.length≤cells.length∧setK m n (some (.row k' E' s true (xs.set j (cells.take off++ds++cells.drop (off+ds.length))))) fun m'=>K .un m'
       |false=>∃cells,xs[j]?=some cells∧off+ds.length≤cells.length∧setK m n (some (.row k' E' s false (xs.set j (cells.take off++ds++cells.drop (off+ds.length))))) fun m'=>K .un m') else False
      |none=>False
     else False
    |some (some (.asr ..))=>exK P o E m K
    |_=>False
   |_=>False
 | .fieldAddr s x f=>match T s with
  |some ⟨_,_,_,_,.struct fs⟩=>match fs[f]? with
   |some (off,ty)=>
    match T ty with
    |some i=>if i.size=0 then False else
     match E x with
     | .bx n o=>K (.bx n (o+off)) m
     | .el f cs o=>K (.el f cs (o+off)) m
     | .oq n k sz j o=>match m[n]? with
      |some (some (.row k' _ _ _ _))=>if k=k' then K (.oq n k sz j (o+off)) m else False
      |some (some (.asr k' _ _))=>if k=k' then K (.oq n k sz j (o+off)) m else False
      |_=>False
     | .cv (.pointer (some ⟨g,o,none⟩))=>K (.cv (.pointer (some ⟨g,o+off,none⟩))) m
     |_=>False
    |none=>False
   |none=>False
  |_=>False
 | .field s x f=>match T s with
  |some ⟨_,_,_,_,.struct fs⟩=>match fs[f]? with
   |some (off,ty)=>
    match T ty with
    |some i=>match E x with
     | .ag cs=>loadK i cs off fun v=>K v m
     |_=>False
    |none=>False
   |none=>False
  |_=>False
 | .indexAddr ty x i=>match T ty with
  |some ⟨_,_,_,_,.slice e⟩=>match E x,E i with
   | .sl f sz xs,.cv (.int _ j)=>if sizeOk T e sz&&sz !=0 then 0≤j∧∃cells,xs[j.toNat]?=some cells∧forceD cells fun cells=>K (.el f cells 0) m else False
   | .ow n k,.cv (.int _ j)=>match m[n]? with
    |some (some (.row k' _ sz _ xs))=>if k=k'∧sizeOk T e sz=true∧sz≠0 then 0≤j∧j.toNat<xs.length∧K (.oq n k sz j.toNat 0) m else False
    |some (some (.asr ..))=>rdK P o E m K
    |_=>False
   | .vw n k s lo hi,.cv (.int _ j)=>match m[n]? with
    |some (some (.row k' _ sz _ _))=>if k=k'∧s=sz∧sizeOk T e sz=true∧sz≠0 then 0≤j∧j.toNat<hi - lo∧K (.oq n k sz (lo+j.toNat) 0) m else False
    |some (some (.asr ..))=>rdK P o E m K
    |_=>False
   |_,_=>False
  |some ⟨_,_,_,_,.array n e⟩=>match E x,E i with
   | .el f cs off,.cv (.int _ j)=>if sizeOk T e 1 then 0≤j∧j.toNat<n∧∃d,cs[off+j.toNat]?=some d∧K (.el f [d] 0) m else False
   | .bx b off,.cv (.int _ j)=>if sizeOk T e 1 then 0≤j∧j.toNat<n∧K (.bx b (off+j.toNat)) m else False
   | .cv (.pointer (some ⟨g,off,none⟩)),.cv (.int _ j)=>match T e with
    |some ie=>0≤j∧j.toNat<n∧K (.cv (.pointer (some ⟨g,off+j.toNat*ie.size,none⟩))) m
    |none=>False
   |_,_=>False
  |_=>False
 | .makeInterface ty x=>match T ty,E x with
  |some ⟨_,_,_,_,.ptr _⟩,.bx n 0=>K (.ic ty n) m
  |some ⟨_,_,_,_,.struct _⟩,.ag [.cv c]=>K (.cv (.iface ty (.agg #[c]))) m
  |_,_=>False
 | .nilCheck x=>match E x with
  | .bx n o=>K (.bx n o) m
  | .el f cs o=>K (.el f cs o) m
  | .oq n k sz j o=>K (.oq n k sz j o) m
  |_=>False
 | .index ty x i=>match T ty with
  |some ⟨_,_,_,_,.string⟩=>match E x,E i with
   | .cv (.string s),.cv (.int _ j)=>0≤j∧∃b:UInt8,s[j.toNat]?=some b∧K (.cv (.int .u8 (b.toNat:Nat))) m
   |_,_=>False
  |some ⟨_,_,_,_,.array n e⟩=>match T e with
   |some ie=>if ie.size=1∧ie.agg=false then(match E x,E i with
    | .ag cs,.cv (.int _ j)=>0≤j∧j.toNat<n∧∃v,cs[j.toNat]?=some v∧v.k fun v=>K v m
    |_,_=>False) else False
   |none=>False
  |_=>False
 | .slice ty x lo hi mx=>match mx with
  |some _=>∃v m',OpTr P o E m v m'∧v.k fun v=>forceM m' fun m'=>K v m'
  |none=>match T ty,mx with
   |some ⟨_,_,_,_,.string⟩,none=>match E x with
    | .cv (.string s)=>match optInt E 0 lo,optInt E (s.size:Nat) hi with
     |some l,some h=>0≤l∧l≤h∧h≤(s.size:Nat)∧K (.cv (.string (s.extract l.toNat h.toNat))) m
     |_,_=>False
    |_=>False
   |some ⟨_,_,_,_,.slice e⟩,none=>match E x with
    | .sl f sz xs=>if sizeOk T e sz then
      match optInt E 0 lo,optInt E (xs.length:Nat) hi with
      |some l,some h=>0≤l∧l≤h∧h≤(xs.length:Nat)∧K (.sl f sz ((xs.take h.toNat).drop l.toNat)) m
      |_,_=>False
     else False
    | .ow n k=>match m[n]? with
     | some (some (.row k' _ sz _ xs))=>if k=k'∧sizeOk T e sz=true then
       match optInt E 0 lo,optInt E (xs.length:Nat) hi with
       |some l,some h=>0≤l∧l≤h∧h≤(xs.length:Nat)∧K (.vw n k sz l.toNat h.toNat) m
       |_,_=>False
      else False
     |some (some (.asr ..))=>rdK P o E m K
     |_=>False
    | .vw n k s lo' hi'=>match m[n]? with
     | some (some (.row k' _ sz _ _))=>if k=k'∧s=sz∧sizeOk T e sz=true then
       match optInt E 0 lo,optInt E ((hi' - lo':Nat):Int) hi with
       |some l,some h=>0≤l∧l≤h∧h≤((hi' - lo':Nat):Int)∧K (.vw n k s (lo'+l.toNat) (lo'+h.toNat)) m
       |_,_=>False
      else False
     |_=>False
    |_=>False
   |_,_=>False
 | .binOp op ty x y _=>match E x,E y with
  | .cv (.bool a),.cv (.bool b)=>match T ty with
   |some ⟨_,_,_,_,.bool⟩=>binB op a b fun v=>K (.cv v) m
   |_=>False
  | .cv (.slice none 0 0),.cv (.slice none 0 0)=>match T ty with
   |some ⟨_,_,_,_,.slice _⟩=>(match op with
    | .eql=>K (.cv (.bool true)) m
    | .neq=>K (.cv (.bool false)) m
    |_=>False)
   |_=>False
  | .cv (.map none),.cv (.map none)=>match T ty with
   |some ⟨_,_,_,_,.map⟩=>(match op with
    | .eql=>K (.cv (.bool true)) m
    | .neq=>K (.cv (.bool false)) m
    |_=>False)
   |_=>False
  | .cv (.pointer none),.cv (.pointer none)=>match T ty with
   |some ⟨_,_,_,_,.ptr _⟩=>(match op with
    | .eql=>K (.cv (.bool true)) m
    | .neq=>K (.cv (.bool false)) m
    |_=>False)
   |_=>False
  | .cv a,.cv b=>binC op a b fun v=>K (.cv v) m
  | .sl _ _ xs,.cv (.slice none 0 0)=>match T ty with
   |some ⟨_,_,_,_,.slice _⟩=>xs≠[]∧(match op with
    | .eql=>K (.cv (.bool false)) m
    | .neq=>K (.cv (.bool true)) m
    |_=>False)
   |_=>False
  | .ow _n _k,.cv (.map none)=>(match nilB y with
   |true=>rdK P o E m K
   |false=>False)
  | .bx _n _o,.cv (.pointer none)=>match T ty with
   |some ⟨_,_,_,_,.ptr _⟩=>(match op with
    | .eql=>K (.cv (.bool false)) m
    | .neq=>K (.cv (.bool true)) m
    |_=>False)
   |_=>False
  | .bx n o,.bx n' o'=>match T ty with
   |some ⟨_,_,_,_,.ptr e⟩=>match T e with
    |some _=>n=n'∧o=o'∧(match op with
     | .eql=>K (.cv (.bool true)) m
     | .neq=>K (.cv (.bool false)) m
     |_=>False)
    |none=>False
   |_=>False
  | .ag cs,.ag ds=>if allC cs&&allC ds then∃t,EqOk P ty cs ds t∧(match op with
   | .eql=>K (.cv (.bool t)) m
   | .neq=>K (.cv (.bool !t)) m
   |_=>False) else False
  |_,_=>False
 | .unOp op _ x=>match op,E x with
  | .not,.cv (.bool b)=>K (.cv (.bool !b)) m
  | .neg,.cv (.int k n)=>K (.cv (.int k (k.wrap (0 - n)))) m
  | .xor,.cv (.int k n)=>K (.cv (.int k (k.wrap ((BitVec.ofInt k.bits (if k.signed then -1 else k.max) ^^^ BitVec.ofInt k.bits n).toNat:Nat)))) m
  |_,_=>False
 | .convert s d x=>match T.fm (1000000+d) with
  |some _=>∃v m',OpTr P o E m v m'∧v.k fun v=>forceM m' fun m'=>K v m'
  |none=>match T s,T d,E x with
   |some _,some ⟨_,_,_,_,.int k⟩,.cv (.int _ n)=>K (.cv (.int k (k.wrap n))) m
   |some _,some ⟨_,_,_,_,.string⟩,.cv (.string b)=>K (.cv (.string b)) m
   |some ⟨_,_,_,_,.slice e⟩,some ⟨_,_,_,_,.string⟩,.sl _ 1 xs=>match T e with
    |some ⟨_,_,_,_,.int .u8⟩=>match bytesOf xs with
     |some b=>K (.cv (.string ⟨b.toArray⟩)) m
     |none=>False
    |_=>False
   |_,_,_=>False
 | .extract x i=>match E x with
  | .tu vs=>match vs[i]? with
   |some v=>K v m
   |none=>False
  |_=>False
 | .build ty ps=>match T ty with
  |some ⟨_,_,_,zero,.struct fs⟩=>if fs.all (fun f=>(T f.2).isSome) then buildV fs T E (zero.map .cv) ps.toList fun cs=>K (.ag cs) m else False
  |some ⟨_,_,_,zero,.array n e⟩=>match T e with
   |some ie=>buildV ((List.range n).map fun q=>(q*ie.size,e)) T E (zero.map .cv) ps.toList fun cs=>K (.ag cs) m
   |none=>False
  |_=>False
 | .buildSlice ty n ps=>match T.fm (2000000+ty) with
  |some _=>∃v m',OpTr P o E m v m'∧v.k fun v=>forceM m' fun m'=>K v m'
  |none=>match T ty with
   |some ⟨_,_,_,_,.slice e⟩=>match T e with
    |some i=>if i.size=0∨n*i.size>16777216 then False else elemsD i.size E (List.replicate n (i.zero.map .cv)) true ps.toList fun xs f=>newK o.dst (.row 0 e i.size f xs) (.ow · 0) m K
    |none=>False
   |_=>False
 | .call c=>match c.callee with
  | .value (.func f)=>match T.fm f with
   |none=>passL T m c.args.toList c.argTypes.toList E fun vs=>callK P f vs m K
   |some false=>∃v m',OpTr P o E m v m'∧v.k fun v=>forceM m' fun m'=>K v m'
   |some true=>rdK P o E m K
  | .value (.tmp t)=>match E (.tmp t) with
   | .cv (.func (.func f) fst cap)=>match T.fm f with
    |none=>passL T m c.args.toList c.argTypes.toList E fun vs=>callK P f (fst.toList.map .cv++vs++cap.toList.map .cv) m K
    |some _=>∃v m',OpTr P o E m v m'∧v.k fun v=>forceM m' fun m'=>K v m'
   | .fn f n cs=>match T.fm f with
    |none=>forceL (cs.map (V.pass1 m)) fun cs=>passL T m c.args.toList c.argTypes.toList E fun vs=>callK P f (cs.take n++vs++cs.drop n) m K
    |some _=>∃v m',OpTr P o E m v m'∧v.k fun v=>forceM m' fun m'=>K v m'
   |_=>False
  | .builtin .len=>match c.args.toList,c.argTypes.toList with
   |[x],[ty]=>match T ty with
    |some ⟨_,_,_,_,.string⟩=>match E x with
     | .cv (.string s)=>K (.cv (.int .i64 (s.size:Nat))) m
     |_=>False
    |some ⟨_,_,_,_,.slice _⟩=>(match E x with
     | .ow n k=>(match isAs m n k with
      |true=>rdK P o E m K
      |false=>lenK (.ow n k) m K)
     | .vw n k sz lo hi=>(match isAs m n k with
      |true=>rdK P o E m K
      |false=>lenK (.vw n k sz lo hi) m K)
     |v=>lenK v m K)
    |some ⟨_,_,_,_,.map⟩=>rdK P o E m K
    |_=>False
   |_,_=>False
  | .builtin .max=>match c.args.toList with
   |[x,y]=>match E x,E y with
    | .cv (.int k a),.cv (.int _ b)=>K (.cv (.int k (if b>a then b else a))) m
    |_,_=>False
   |_=>False
  | .builtin .min=>match c.args.toList with
   |[x,y]=>match E x,E y with
    | .cv (.int k a),.cv (.int _ b)=>K (.cv (.int k (if b<a then b else a))) m
    |_,_=>False
   |_=>False
  | .builtin .append=>match c.args.toList,c.argTypes.toList with
   |[x,y],[ty,ty']=>match decide (ty=ty')&&(T.fm (5000000+ty)).isNone with
    |false=>∃v m',OpTr P o E m v m'∧v.k fun v=>forceM m' fun m'=>K v m'
    |true=>match T ty,decide (ty=ty') with
    |some ⟨_,_,_,_,.slice e⟩,true=>match T e with
     |some i=>if i.size=0∨i.bytes=0 then False else
      match(E y).elems m i.size with
      |some (ys,fr)=>
       (match E x with
       | .cv (.slice none 0 0)=>flagK true fr ys fun f=>ys.length*i.bytes≤140737488355328∧newK o.dst (.row 0 e i.size f ys) (.ow · 0) m K
       | .ow n k=>match m[n]? with
        |some (some (.row k' e' s f xs))=>if k=k'∧e'=e∧s=i.size then flagK f fr ys fun f=>(xs.length+ys.length)*i.bytes≤140737488355328∧setK m n (some (.row (k+1) e' s f (xs++ys))) fun m'=>K (.ow n (k+1)) m' else False
        |_=>False
       |_=>False)
      |none=>False
     |none=>False
    |_,_=>False
   |_,_=>False
  |_=>∃v m',OpTr P o E m v m'∧v.k fun v=>forceM m' fun m'=>K v m'
 | .makeFunc (.func f) fst cap=>match consts E (fst.toList++cap.toList) with
  |some cs=>K (.cv (.func (.func f) (cs.take fst.size).toArray (cs.drop fst.size).toArray)) m
  |none=>match allOne ((fst.toList++cap.toList).map E) with
   |true=>forceL ((fst.toList++cap.toList).map E) fun cs=>K (.fn f fst.size cs) m
   |false=>False
 | .lookup .. =>match T.fm (6000000+o.dst.getD 0) with
  |some _=>rdK P o E m K
  |none=>∃v m',OpTr P o E m v m'∧v.k fun v=>forceM m' fun m'=>K v m'
 |_=>∃v m',OpTr P o E m v m'∧v.k fun v=>forceM m' fun m'=>K v m'
def putK (t:List V) (K:St→Prop) (dst:Option Tmp) (v:V) (m:List (Option Bk)):Prop:=
 match dst with
 |none=>K ⟨t,m⟩
 |some d=>v.k fun v=>setK t d v fun t=>K ⟨t,m⟩
def aDo (P:Program) (T:Tab) (o:Oper) (t:List V) (m:List (Option Bk)) (K:St→Prop):Prop:=
 match o.op with
 | .move x| .assign x=>putK t K o.dst (ev t x) m
 | .pick c x y=>match ev t c,c with
  | .kb true,_=>putK t K o.dst (ev t x) m
  | .kb false,_=>putK t K o.dst (ev t y) m
  | .cv (.bool b),.tmp d=>∀b',b=b'→setK t d (.kb b') fun t=>(match b' with
   |true=>putK t K o.dst (ev t x) m
   |false=>putK t K o.dst (ev t y) m)
  |_,_=>False
 |_=>aCore P T o (evN t) m (putK t K o.dst)
def aOp (P:Program) (T:Tab) (ops:Array Oper) (o:Oper):St→(St→Prop)→Prop
 |⟨t,m⟩,K=>
  match o.guard with
  |none=>aDo P T o t m K
  |some (j,want)=>match(ops[j]?).bind (·.dst) with
   |none=>False
   |some d=>match t[d]? with
    |some (.kb b)=>(match b,want with
     |true,true|false,false=>aDo P T o t m K
     |_,_=>putK t K o.dst (.cv undef) m)
    |some (.cv (.bool b))=>∀b',b=b'→setK t d (.kb b') fun t=>(match b',want with
     |true,true|false,false=>aDo P T o t m K
     |_,_=>putK t K o.dst (.cv undef) m)
    |some (.cv (.tuple _))=>putK t K o.dst (.cv undef) m
    |_=>False
def awpOps (P:Program) (T:Tab) (ops:Array Oper):List Oper→St→(St→Prop)→Prop
 |[],st,K=>K st
 |o::l,st,K=>aOp P T ops o st fun st=>awpOps P T ops l st K
inductive Ex where
 |normal|ret|exit (id:Nat)
def Code.wr:Code→List Nat
 | .region _ ops _=>ops.toList.filterMap (·.dst)
 | .seq a b=>Code.wr a++Code.wr b
 | .cond _ a b=>Code.wr a++Code.wr b
 | .block _ a=>Code.wr a
 | .loop a=>Code.wr a
 | .scope a=>Code.wr a
 |_=>[]
def forgetL {α:Type} (z:α):List Nat→List α→List α
 |[],l=>l
 |i::is,l=>forgetL z is (l.set i z)
def updL {α:Type}:List (Nat×α)→List α→List α
 |[],l=>l
 |(i,v)::us,l=>updL us (l.set i v)
def forgetK {α:Type} (z:α):List Nat→List α→(List α→Prop)→Prop
 |[],l,K=>K l
 |i::is,l,K=>setK l i z fun l=>forgetK z is l K
def updK {α:Type}:List (Nat×α)→List α→(List α→Prop)→Prop
 |[],l,K=>K l
 |(i,v)::us,l,K=>setK l i v fun l=>updK us l K
def cur (m:List (Option Bk)) (n:Nat):Option Nat:=
 match m[n]? with
 |some (some (.row k _ _ _ _))=>some k
 |some (some (.asr k _ _))=>some k
 |_=>none
def V.clean (m:List (Option Bk)):V→V
 | .ow n k=>match cur m n with
  |some k'=>(match Nat.beq k k' with|true=> .ow n k|false=> .un)
  |none=> .un
 | .oq n k s i o=>match cur m n with
  |some k'=>(match Nat.beq k k' with|true=> .oq n k s i o|false=> .un)
  |none=> .un
 | .vw n k s lo hi=>match cur m n with
  |some k'=>(match Nat.beq k k' with|true=> .vw n k s lo hi|false=> .un)
  |none=> .un
 |v=>v
def headK (c:Code):St→List (Nat×V)→List (Nat×Option Bk)→(St→Prop)→Prop
 |⟨t,m⟩,ups,mups,K=>forgetK .un (Code.wr c) t fun t=>updK ups t fun t=>forceAll t fun t=>forgetK none (Code.wr c) m fun m=>updK mups m fun m=>forceM m fun m=>forceAll (t.map (V.clean m)) fun t=>K ⟨t,m⟩
def WkV (m m':List (Option Bk)) (v v':V):Prop:=
 match v' with
 | .un=>True
 | .ow n' k'=>match v with
  | .ow n k=>n=n'∧cur m n=some k∧cur m' n=some k'
  |_=>False
 | .oq n' k' s' i' o'=>match v with
  | .oq n k s i o=>n=n'∧cur m n=some k∧cur m' n=some k'∧s=s'∧i=i'∧o=o'
  |_=>False
 | .vw n' k' s' i' o'=>match v with
  | .vw n k s i o=>n=n'∧cur m n=some k∧cur m' n=some k'∧s=s'∧i=i'∧o=o'
  |_=>False
 | .cv c=>v.nf= .cv c
 |v'=>v=v'
def WkL (m m':List (Option Bk)):List V→List V→Prop
 |[],[]=>True
 |_::l,.un::l'=>WkL m m' l l'
 |v::l,v'::l'=>WkV m m' v v'∧WkL m m' l l'
 |_,_=>False
abbrev fixV:Nat:=1000000
def fixOk (k k':Nat):Bool:=Nat.beq k k' ||(Nat.beq k' 0&&Nat.blt k 1000000)
def drops:Option Bk→Bool
 |some (.row k _ _ _ _)=>Nat.blt k 1000000
 |some (.asr k _ _)=>Nat.blt k 1000000
 |some (.fz ..)=>false
 |_=>true
def WkB (m m':List (Option Bk)):Bk→Bk→Prop
 | .box cs bt,.box cs' bt'=>(match bt' with
  |none=>WkL m m' cs cs'
  |some t'=>bt=some t'∧WkL m m' cs cs')
 | .row k e s f xs,.row k' e' s' f' xs'=>(match fixOk k k' with
  |false=>False
  |true=>(match f',f with
   |true,false=>False
   |_,_=>e=e'∧s=s'∧xs=xs'))
 | .asr k A outs,.asr k' A' outs'=>(match fixOk k k' with
  |false=>False
  |true=>A=A'∧WkL m m' outs outs')
 |_,_=>False
def WkM (m m':List (Option Bk)):List (Option Bk)→List (Option Bk)→Prop
 |[],[]=>True
 |x::l,none::l'=>(match drops x with
  |true=>WkM m m' l l'
  |false=>False)
 |some b::l,some b'::l'=>WkB m m' b b'∧WkM m m' l l'
 |_,_=>False
def V.closed1:V→Bool
 | .bx _ _| .ow _ _| .oq _ _ _ _ _| .vw _ _ _ _ _| .ag _| .tu _| .fn _ _ _| .ic _ _=>false
 |_=>true
def V.closedB (m:List (Option Bk)):V→Bool
 | .bx n _=>match m[n]? with|some (some (.box _ _))=>true|_=>false
 |v=>v.closed1
def V.closed2:V→Bool
 | .ag cs=>cs.all V.closed1
 |v=>v.closed1
def V.closed (m:List (Option Bk)):V→Bool
 | .bx n _| .ow n _| .oq n _ _ _ _| .vw n _ _ _ _| .ic _ n=>match m[n]? with|some (some _)=>true|_=>false
 | .ag cs=>cs.all (V.closedB m)
 | .fn _ _ cs=>cs.all (V.closedB m)
 | .tu cs=>cs.all V.closed2
 |_=>true
def closedL (m:List (Option Bk)):List V→Bool
 |[]=>true
 |v::l=>v.closed m&&closedL m l
def closedM (m:List (Option Bk)):List (Option Bk)→Bool
 |[]=>true
 |some (.box cs _)::l=>closedL m cs&&closedM m l
 |some (.asr _ _ outs)::l=>closedL m outs&&closedM m l
 |_::l=>closedM m l
def keepL:List (Option Bk)→List (Option Bk)→Bool
 |[],_=>true
 |some (.box _ _)::l,some (.box _ _)::l'=>keepL l l'
 |some (.box _ _)::_,_=>false
 |some (.row ..)::l,some (.row ..)::l'=>keepL l l'
 |some (.row ..)::_,_=>false
 |some (.fz ..)::_,_=>false
 |some (.asr ..)::l,some (.asr ..)::l'=>keepL l l'
 |some (.asr ..)::_,_=>false
 |_::l,_::l'=>keepL l l'
 |_::l,[]=>keepL l []
def Wk:St→St→Prop
 |⟨t,m⟩,⟨t',m'⟩=>(closedL m' t' &&(closedM m' m' &&keepL ((m.drop t.length).take 16) ((m'.drop t.length).take 16)))=true∧WkL m m' t t'∧WkM m m' m m'
def Gh (st st':St):Prop:=∀(B:Fr) (w0:World) (N:Names) (S:Sets) (a:Act) (w:World),Sat B w0 N S st.t st.m a w→∃N' S',Sat B w0 N' S' st'.t st'.m a w
def hasGe:List (Nat×Nat×Nat×Nat)→Bool
 |[]=>false
 |(s,_,_,_)::l=>match Nat.beq s 3000001 with
  |true=>true
  |false=>hasGe l
def WkR (rows:List (Nat×Nat×Nat×Nat)) (st st':St):Prop:=match hasGe rows with
 |false=>Wk st st'
 |true=>∃st1,Gh st st1∧Wk st1 st'
def rowsK:List (Nat×Nat×Nat×Nat)→St→(St→Prop)→Prop
 |[],st,K=>K st
 |(s,d,e,sz)::l,⟨t,m⟩,K=>match Nat.blt s 1000000 with
  |true=>(match t[s]?,m[d]? with
   |some (.cv (.slice none 0 0)),some none=>if sz=0 then False else setK t s (.ow d 0) fun t=>setK m d (some (.row 0 e sz true [])) fun m=>rowsK l ⟨t,m⟩ K
   |_,_=>False)
  |false=>(match Nat.blt s 3000000 with
   |true=>(match m[(s - 1000000) / 1000]?,m[d]? with
    |some (some (.box cs bt)),some none=>(match cs[(s - 1000000) % 1000]? with
     |some (.cv (.slice none 0 0))=>if sz=0 then False else setK cs ((s - 1000000) % 1000) (.ow d 0) fun cs=>setK m ((s - 1000000) / 1000) (some (.box cs bt)) fun m=>setK m d (some (.row 0 e sz true [])) fun m=>rowsK l ⟨t,m⟩ K
     |_=>False)
    |_,_=>False)
   |false=>(match Nat.beq s 3000000 with
    |true=>∃st',Gh ⟨t,m⟩ st'∧rowsK l st' K
    |false=>rowsK l ⟨t,m⟩ K))
def unroll (wp:St→(Ex→St→Prop)→Prop):Nat→St→(Ex→St→Prop)→Prop
 |0,_,_=>False
 |n+1,st,K=>wp st fun e st2=>match e with
  | .normal=>unroll wp n st2 K
  |e=>K e st2
def LoopA (wp:St→(Ex→St→Prop)→Prop) (c:Code) (st:St) (K:Ex→St→Prop):Prop:=
 ∃(rows:List (Nat×Nat×Nat×Nat)),match rows with
 |(3000002,n,_,_)::_=>unroll wp n st K
 |rows=>rowsK rows st fun st=>
 ∃(X:Type) (ups:X→List (Nat×V)) (mups:X→List (Nat×Option Bk)) (I:X→Prop) (μ:X→Nat) (x0:X),
  I x0∧headK c st (ups x0) (mups x0) (Wk st)∧
  ∀x,I x→headK c st (ups x) (mups x) fun st1=>wp st1 fun e st2=>match e with
   | .normal=>∃x',I x'∧μ x'<μ x∧headK c st (ups x') (mups x') (WkR rows st2)
   |e=>K e st2
def Op.nomem (F:Nat→Option Bool):Op→Bool
 | .makeFunc (.func _) .. | .move _| .assign _| .pick .. | .extract .. | .field .. | .index .. | .unOp .. | .build .. | .nilCheck _| .makeInterface .. =>true
 | .binOp _ _ _ y _=> !(nilB y)
 | .convert _ d _=>(F (1000000+d)).isNone
 | .call c=>match c.callee with
  | .builtin .max| .builtin .min=>true
  |_=>false
 |_=>false
def Op.noeff (F:Nat→Option Bool):Op→Bool
 | .load ty _=>(F (4000000+ty)).isNone
 | .indexAddr .. | .fieldAddr .. | .binOp .. =>true
 | .slice _ _ _ _ mx=>mx.isNone
 | .call c=>match c.callee with
  | .value (.func f)=>match F f with
   |none=>true
   |some b=>b
  | .builtin .len| .builtin .max| .builtin .min=>true
  |_=>false
 |op=>Op.nomem F op
def Op.fresh (F:Nat→Option Bool):Op→Bool
 | .alloc _| .box .. =>true
 | .buildSlice ty _ _=>(F (2000000+ty)).isNone
 |_=>false
def Oper.noeff (F:Nat→Option Bool) (o:Oper):Bool:=match o.op with
 | .lookup .. =>(F (6000000+o.dst.getD 0)).isSome
 |op=>Op.noeff F op
def compat (F:Nat→Option Bool) (x y:Oper):Bool:=Op.nomem F x.op||Op.nomem F y.op||(Oper.noeff F x&&(Oper.noeff F y||Op.fresh F y.op))
def insN (n:Nat) (l:List Nat):List Nat:=match l.any (Nat.beq n) with
 |true=>l
 |false=>n::l
def unionN:List Nat→List Nat→List Nat
 |[],s=>s
 |x::l,s=>unionN l (insN x s)
def ancs (ops:List Oper):List (List Nat):=
 ops.foldl (fun l o=>l++[o.after.toList.foldl (fun s e=>if Region.binds .any e then unionN (l.getD e.on []) (insN e.on s) else s) []]) []
def ancOk (ops:Array Oper) (A:List (List Nat)):Bool:=
 (List.range ops.size).all fun j=>match ops[j]? with
  |none=>true
  |some o=>(A.getD j []).all fun k=>o.after.toList.any fun e=>Region.binds .any e&&decide (e.on<j)&&(e.on==k||(A.getD e.on []).contains k)
def free2 (F:Nat→Option Bool) (ops:Array Oper) (A:List (List Nat)) (listed:Array Bool) (i:Nat):Bool:=
 match ops[i]? with
 |none=>false
 | some oi=>(List.range ops.size).all fun j=>j==i||listed.getD j true||(A.getD j []).contains i||match ops[j]? with
   |some oj=>oi.apart ops oj&&compat F oi oj
   |none=>true
def lex2 (F:Nat→Option Bool) (ops:Array Oper) (A:List (List Nat)):Nat→Nat→Array Bool→Bool
 |0,_,listed=>(Region.ready .any ops listed).isEmpty
 |fuel+1,k,listed=>(Region.ready .any ops listed).contains k&&free2 F ops A listed k&&lex2 F ops A fuel (k+1) (listed.setIfInBounds k true)
def drawOk (F:Nat→Option Bool) (ops:Array Oper):Bool:=ancOk ops (ancs ops.toList)&&lex2 F ops (ancs ops.toList) ops.size 0 (Array.replicate ops.size false)
def freeP (ops:Array Oper) (A:List (List Nat)) (listed:Array Bool) (i:Nat):Bool:=
 match ops[i]? with
 |none=>false
 | some oi=>(List.range ops.size).all fun j=>j==i||listed.getD j true||(A.getD j []).contains i||match ops[j]? with
   |some oj=>oi.apart ops oj
   |none=>true
inductive Plan where
 |done
 |one (i:Nat) (p:Plan)
 |pull (i:Nat) (p:Plan)
 |alt (i:Nat) (p q:Plan)
 |stop
def Plan.alts:Plan→List Nat
 | .alt i _ q=>i::q.alts
 |_=>[]
def Plan.cov (ops:Array Oper) (p:Plan) (listed:Array Bool):Bool:=
 match p with
 | .alt .. =>(Region.ready .any ops listed).all fun j=>p.alts.contains j
 | .stop=>false
 |_=>true
def planOk (F:Nat→Option Bool) (ops:Array Oper) (A:List (List Nat)):Plan→Nat→Array Bool→Bool
 | .done,_,listed=>(Region.ready .any ops listed).isEmpty
 | .one i p,fuel+1,listed=>(Region.ready .any ops listed).contains i&&(free2 F ops A listed i&&(p.cov ops (listed.setIfInBounds i true)&&planOk F ops A p fuel (listed.setIfInBounds i true)))
 | .pull i p,fuel+1,listed=>(Region.ready .any ops listed).contains i&&(freeP ops A listed i&&(p.cov ops (listed.setIfInBounds i true)&&planOk F ops A p fuel (listed.setIfInBounds i true)))
 | .alt i p q,fuel+1,listed=>(Region.ready .any ops listed).contains i&&(p.cov ops (listed.setIfInBounds i true)&&(planOk F ops A p fuel (listed.setIfInBounds i true)&&planOk F ops A q (fuel+1) listed))
 | .stop,_,_=>true
 |_,_,_=>false
def awpPlan (P:Program) (T:Tab) (ops:Array Oper):Plan→St→(St→Prop)→Prop
 | .done,st,K=>K st
 | .one i p,st,K=>match ops[i]? with
  |some o=>aOp P T ops o st fun st=>awpPlan P T ops p st K
  |none=>False
 | .pull i p,⟨t,m⟩,K=>match ops[i]? with
  |some o=>(match o.guard with
   |none=>∃v,(∀(m2:List (Option Bk)) (K2:V→List (Option Bk)→Prop),K2 v m2→aCore P T o (evN t) m2 K2)∧(putK t (fun st=>awpPlan P T ops p st K) o.dst v m)
   |some _=>False)
  |none=>False
 | .alt i p q,st,K=>(match ops[i]? with
  |some o=>aOp P T ops o st fun st=>awpPlan P T ops p st K
  |none=>False)∧awpPlan P T ops q st K
 | .stop,_,_=>True
def DrawA (P:Program) (T:Tab) (ops:Array Oper) (st:St) (K:St→Prop):Prop:=
 ∃pl:Option Plan,match pl with
  |none=>drawOk T.fm ops=true∧awpOps P T ops ops.toList st K
  |some p=>(ancOk ops (ancs ops.toList)&&(p.cov ops (Array.replicate ops.size false)&&planOk T.fm ops (ancs ops.toList) p ops.size (Array.replicate ops.size false)))=true∧awpPlan P T ops p st K
def slotsC:List V→Nat→List (Nat×V)→(List V→Prop)→Prop
 |[],_,_,K=>K []
 |_::l,i,(j,v)::us,K=>(match Nat.beq i j with
  |true=>slotsC l (i+1) us fun l=>K (v::l)
  |false=>slotsC l (i+1) ((j,v)::us) fun l=>K (.un::l))
 |_::l,i,[],K=>slotsC l (i+1) [] fun l=>K (.un::l)
def blksC:List (Option Bk)→Nat→List (Nat×Bk)→(List (Option Bk)→Prop)→Prop
 |[],_,_,K=>K []
 |_::l,i,(j,v)::us,K=>(match Nat.beq i j with
  |true=>blksC l (i+1) us fun l=>K (some v::l)
  |false=>blksC l (i+1) ((j,v)::us) fun l=>K (none::l))
 |_::l,i,[],K=>blksC l (i+1) [] fun l=>K (none::l)
def JoinA:St→(St→Prop)→Prop
 |st,K=>∃(ups:List (Nat×V)) (mups:List (Nat×Bk)) (st1:St),Gh st st1∧slotsC st1.t 0 ups fun t'=>blksC st1.m 0 mups fun m'=>Wk st1 ⟨t',m'⟩∧K ⟨t',m'⟩
def joinK:Option Bool→St→(St→Prop)→Prop
 |none,st,K=>K st
 |some _,st,K=>JoinA st K
def awp (P:Program) (T:Tab):Code→St→(Ex→St→Prop)→Prop
 | .skip,st,K=>K .normal st
 | .region id ops draw,st,K=>joinK (T.fm (7000000+id)) st fun st=>if draw then DrawA P T ops st (K .normal) else awpOps P T ops ops.toList st (K .normal)
 | .seq a b,st,K=>awp P T a st fun e st=>match e with
  | .normal=>awp P T b st K
  | .ret=>K .ret st
  | .exit id=>K (.exit id) st
 | .cond c a b,⟨t,m⟩,K=>match ev t c,c with
  | .kb true,_=>awp P T a ⟨t,m⟩ K
  | .kb false,_=>awp P T b ⟨t,m⟩ K
  | .cv (.bool t₁),.tmp d=>∀t',t₁=t'→setK t d (.kb t') fun t=>match t' with
   |true=>awp P T a ⟨t,m⟩ K
   |false=>awp P T b ⟨t,m⟩ K
  |_,_=>False
 | .block id a,st,K=>awp P T a st fun e st=>match e with
  | .normal=>K .normal st
  | .ret=>K .ret st
  | .exit id'=>if id'=id then K .normal st else K (.exit id') st
 | .loop a,st,K=>LoopA (awp P T a) a st K
 | .exit id,st,K=>K (.exit id) st
 | .ret,st,K=>K .ret st
 | .label _,st,K=>K .normal st
 | .scope a,st,K=>awp P T a st K
 |_,_,_=>False
def V.fin1 (m:List (Option Bk)):V→V
 | .cv v=> .cv v
 | .kb b=> .cv (.bool b)
 | .sl true sz xs=> .sl true sz xs
 | .ow n k=>match m[n]? with
  |some (some (.row k' _ sz true xs))=>if k=k' then .sl true sz xs else .un
  |_=> .un
 | .vw n k s lo hi=>match m[n]? with
  |some (some (.row k' _ sz true xs))=>if k=k'∧s=sz then .sl true sz ((xs.take hi).drop lo) else .un
  |_=> .un
 |_=> .un
def V.fin (m:List (Option Bk)):V→V
 | .ag cs=> .ag (cs.map (V.fin1 m))
 |v=>v.fin1 m
def resV (T:Tab) (t:List V) (m:List (Option Bk)):ResultVar→Option V
 | .tmp i=>t[i]?
 | .cell a ty=>match T ty,t[a]? with
  |some i,some (.bx n off)=>match m[n]? with
   |some (some (.box cs _))=>if i.agg then(if off+i.size≤cs.length then some (.ag ((cs.drop off).take i.size)) else none) else cs[off]?
   |_=>none
  |_,_=>none
def resL (T:Tab) (t:List V) (m:List (Option Bk)):List ResultVar→List TypeId→(List V→Prop)→Prop
 |[],_,K=>K []
 |r::l,ty::tys,K=>match resV T t m r with
  |some v=>((v.fin m).z (czs T 5 ty)).k fun v=>resL T t m l tys fun vs=>K (v::vs)
  |none=>False
 |r::l,[],K=>match resV T t m r with
  |some v=>(v.fin m).k fun v=>resL T t m l [] fun vs=>K (v::vs)
  |none=>False
def resK (T:Tab) (fn:Func) (K:V→Prop):St→Prop
 |⟨t,m⟩=>resL T t m fn.results.toList fn.resultTypes.toList fun
  |[v]=>K v
  |vs=>K (.tu vs)
def V.old1:V→V
 | .sl _ sz xs=> .sl false sz xs
 | .cv v=> .cv v
 | .kb b=> .kb b
 | .el _ cells o=> .el false cells o
 |_=> .un
def V.old:V→V
 | .ag cs=> .ag (cs.map V.old1)
 |v=>v.old1
def Done (T:Tab) (fn:Func) (res:V):Ex→St→Prop
 | .exit _,_=>False
 |_,st=>resK T fn (fun v=>v=res) st
def enterK (fn:Func) (args:List V) (K:St→Prop):Prop:=
 forceAll (args.map V.old++List.replicate (fn.ntmps - args.length) .un) fun t=>K ⟨t,List.replicate fn.ntmps none⟩
def Body (P:Program) (T:Tab) (fn:Func) (args:List V) (res:V):Prop:=
 match fn.body with
 |some c=>enterK fn args fun st=>awp P T c st (Done T fn res)
 |none=>False
end Go.Proofs.YtdccglkagfdooaaGreatDoor
