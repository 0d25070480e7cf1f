/- Texts joined by pack.py: XSyA XSt0 XSxCa XSxCb XSxCm -/
import Derived.Test.YtdccglkagfdooaaGreatDoorBz16
import Derived.Test.YtdccglkagfdooaaGreatDoorBz17
import Derived.Test.YtdccglkagfdooaaGreatDoorBz14
import Derived.Test.YtdccglkagfdooaaGreatDoorBz11
import Derived.Maps.OwnSet
set_option maxHeartbeats 2000000
set_option maxRecDepth 100000
namespace Go.Proofs.YtdccglkagfdooaaGreatDoor
open Go.RowKit
def parM:List (Nat×Bool):=[(180,false),(157,false),(117,false),(158,false),(159,false),
 (118,false),(230,false),(232,false),(231,false),(233,false),
 (229,false),(228,false),(226,false),(201,false),(221,false),(219,false),
 (215,false),(202,false),(183,false),(184,false),(181,false),(182,false),
 (160,false),(120,false),(87,false),(119,false)]
theorem mesx {f:FuncId} {fn:Func} (hf:Tryz.prog.funcs[f]?=some fn) (hn:(fn.name== "runtime.NumGoroutine")=false) {args:List V} {m:List Bk} {out:Except Value (V×List Bk)} (h16:(decide (args.length≤fn.ntmps)&&decide (m.length≤16))=true)
  (h:BodyE (fun vs=>vs.flatMap V.bn) Tryz.prog (TM parM) fn args m out):MEnds Tryz.prog f args m out:=
 mends_of (tokM parM) mixed hf hn h16 h
theorem mpsx {f:FuncId} {fn:Func} (hf:Tryz.prog.funcs[f]?=some fn) (hn:(fn.name== "runtime.NumGoroutine")=false) {args:List V} {m:List Bk} {p:Value} (h16:(decide (args.length≤fn.ntmps)&&decide (m.length≤16))=true)
  (h:BodyE (fun vs=>vs.flatMap V.bn) Tryz.prog (TM parM) fn args m (.error p)):MPans Tryz.prog f args m p:=
 mends_of (out:= .error p) (tokM parM) mixed hf hn h16 h
theorem mcx {f:FuncId} {fn:Func} (hf:Tryz.prog.funcs[f]?=some fn) (hn:(fn.name== "runtime.NumGoroutine")=false) {args:List V} {m:List Bk} {res:V} {m':List Bk} (h16:(decide (args.length≤fn.ntmps)&&decide (m.length≤16))=true)
  (h:BodyM (fun vs=>vs.flatMap V.bn) Tryz.prog (TM parM) fn args m res m'):MCalls Tryz.prog f args m res m':=
 mcalls_of (tokM parM) mixed hf hn h16 h
abbrev pBox (l:List Tok) (k:Nat) (e:Int) (n1 n2:Nat):Bk:= .box [.sl false 4 (l.map tokD),int (k:Nat),int e,.ow n1 0,.ow n2 0]
abbrev nRow (ns:List Nd):Bk:= .row 0 153 5 false (ns.map ndD)
abbrev fRow (fs:List Fc):Bk:= .row 0 87 3 false (fs.map fcD)
abbrev pM (l:List Tok) (k:Nat) (e:Int) (ns:List Nd) (fs:List Fc):List Bk:=[pBox l k e 1 2,nRow ns,fRow fs]
abbrev tsV (ts:List Bs):V:= .sl false 1 (ts.map strD)
abbrev faultV (o:Int):Value:= .iface 146 (.agg #[.int .i64 o])
def outP (l:List Tok) (e:Int) (fs:List Fc):PRes Int→Except Value (V×List Bk)
 | .ok (i,r1,ns1)=> .ok (int i,pM l (l.length - r1.length) e ns1 fs)
 | .error o=> .error (faultV o)
def nextB (k:Int) (ts:List Bs):List Tok→Bool
 |[]=>false
 |t::_=>decide (t.kind=k)&&(ts.isEmpty||ts.contains t.text)
section
variable {l:List Tok} {k:Nat} {e:Int} {ns:List Nd} {fs:List Fc}
theorem nextB_eq (K:Int) (ts:List Bs) (h:k<l.length):nextB K ts (l.drop k)=(decide (l[k].kind=K)&&(ts.isEmpty||ts.contains l[k].text)):=by
 rw[List.drop_eq_getElem_cons h];rfl
theorem nextB_end (K:Int) (ts:List Bs) (h:l.length≤k):nextB K ts (l.drop k)=false:=by
 rw[List.drop_eq_nil_of_le h];rfl
theorem x_next (K:Int) (ts:List Bs) (_hk:k≤l.length) (_hl:l.length≤1000000) (ht:ts.length≤100):MCalls Tryz.prog 180 [.bx 0 0,int K,tsV ts] (pM l k e ns fs) (boo (nextB K ts (l.drop k))) (pM l k e ns fs):=by
 have hll:(l.map tokD).length=l.length:=List.length_map _
 refine mcx Tryz.func180 (by kernel_rfl) (by kernel_rfl) ?_
 conv=>whnf
 refine⟨none,by kernel_rfl,?_⟩
 rcases Nat.lt_or_ge k l.length with h|h
 rotate_left
 ·rw[nextB_end K ts h]
  conv=>whnf
  refine known false (by simp;omega) ?_
  repeat((conv=>whnf);first|refine known true rfl ?_|refine known false rfl ?_)
  conv=>whnf
  exact⟨rfl,rfl,rfl⟩
 rw[nextB_eq K ts h]
 conv=>whnf
 refine known true (by simp;omega) ?_
 conv=>whnf
 refine⟨by omega,_,get_map tokD h,?_⟩
 conv=>whnf
 rintro(_|_) h1
 ·rw[show decide (l[k].kind=K)=false from by simpa using h1,Bool.false_and]
  repeat((conv=>whnf);first|refine known true rfl ?_|refine known false rfl ?_)
  conv=>whnf
  exact⟨rfl,rfl,rfl⟩
 rw[show decide (l[k].kind=K)=true from by simpa using h1,Bool.true_and]
 cases ts with
 |nil=>
  repeat((conv=>whnf);first|refine known true rfl ?_|refine known false rfl ?_)
  conv=>whnf
  exact⟨rfl,rfl,rfl⟩
 |cons t0 ts=>
  conv=>whnf
  refine known false (by simp;omega) ?_
  conv=>whnf
  refine⟨by omega,_,get_map tokD h,?_⟩
  conv=>whnf
  refine⟨_,x_containsS (t0::ts) l[k].text (by omega),?_⟩
  rw[show((t0::ts).isEmpty||(t0::ts).contains l[k].text)=(t0::ts).contains l[k].text from rfl]
  generalize (t0::ts).contains l[k].text=b
  repeat((conv=>whnf);first|refine known true rfl ?_|refine known false rfl ?_)
  conv=>whnf
  exact⟨rfl,rfl,rfl⟩
theorem nextB_yes {K:Int} {ts:List Bs} (h:nextB K ts (l.drop k)=true):k<l.length:=by
 rcases Nat.lt_or_ge k l.length with h1|h1
 ·exact h1
 ·rw[nextB_end K ts h1] at h;cases h
theorem offT_at (h:k<l.length):offT e (l.drop k)=l[k].at_:=by rw[List.drop_eq_getElem_cons h];rfl
theorem offT_end (h:l.length≤k):offT e (l.drop k)=e:=by rw[List.drop_eq_nil_of_le h];rfl
def lineP:Nat→Nat→Plan→Plan
 |0,_,p=>p
 |n+1,i,p=> .one i (lineP n (i+1) p)
theorem x_fail (_hl:l.length≤1000000):MPans Tryz.prog 158 [.bx 0 0] (pM l k e ns fs) (faultV (offT e (l.drop k))):=by
 have hll:(l.map tokD).length=l.length:=List.length_map _
 refine mpsx Tryz.func158 (by kernel_rfl) (by kernel_rfl) ?_
 conv=>whnf
 refine⟨none,by kernel_rfl,?_⟩
 rcases Nat.lt_or_ge k l.length with h|h
 ·rw[offT_at h]
  conv=>whnf
  refine known true (by simp;omega) ?_
  conv=>whnf
  refine⟨some (lineP 13 0 (.alt 13 .done .stop)),by kernel_rfl,?_⟩
  conv=>whnf
  refine⟨by omega,_,get_map tokD h,?_⟩
  conv=>whnf
  refine⟨.inr ?_,trivial⟩
  exact pan_op rfl
 ·rw[offT_end h]
  conv=>whnf
  refine known false (by simp;omega) ?_
  conv=>whnf
  refine .inr ?_
  exact pan_op rfl
theorem x_takeY {K:Int} {ts:List Bs} (hl:l.length≤1000000) (ht:ts.length≤100) (h:nextB K ts (l.drop k)=true) (hk:k<l.length):
  MCalls Tryz.prog 157 [.bx 0 0,int K,tsV ts] (pM l k e ns fs) (.tu [l[k].V,boo true]) (pM l (k+1) e ns fs):=by
 have hw:IntKind.i64.wrap (((k:Nat):Int)+1)=((k+1:Nat):Int):=wrap_succ (by omega)
 have hw2:IntKind.i64.wrap (((k+1:Nat):Int) - 1)=(k:Int):=by rw[wrap_in (by omega)];omega
 refine mcx Tryz.func157 (by kernel_rfl) (by kernel_rfl) ?_
 conv=>whnf
 refine mcall (T:=TM parM) (φ:=[]) (gf:=false) (x_next K ts (Nat.le_of_lt hk) hl ht) ?_
 rw[h]
 conv=>whnf
 refine known false rfl ?_
 conv=>whnf
 rw[hw]
 conv=>whnf
 refine⟨none,by kernel_rfl,?_⟩
 conv=>whnf
 rw[hw2]
 conv=>whnf
 refine⟨by omega,_,get_map tokD hk,?_⟩
 conv=>whnf
 exact⟨rfl,rfl,rfl⟩
theorem x_takeN {K:Int} {ts:List Bs} (hl:l.length≤1000000) (ht:ts.length≤100) (h:nextB K ts (l.drop k)=false) (hk:k≤l.length):
  MCalls Tryz.prog 157 [.bx 0 0,int K,tsV ts] (pM l k e ns fs) (.tu [noTok.V,boo false]) (pM l k e ns fs):=by
 refine mcx Tryz.func157 (by kernel_rfl) (by kernel_rfl) ?_
 conv=>whnf
 refine mcall (T:=TM parM) (φ:=[]) (gf:=false) (x_next K ts hk hl ht) ?_
 rw[h]
 conv=>whnf
 refine known true rfl ?_
 conv=>whnf
 exact⟨rfl,rfl,rfl⟩
theorem x_mustY {K:Int} {ts:List Bs} (hl:l.length≤1000000) (ht:ts.length≤100) (h:nextB K ts (l.drop k)=true) (hk:k<l.length):
  MCalls Tryz.prog 117 [.bx 0 0,int K,tsV ts] (pM l k e ns fs) l[k].V (pM l (k+1) e ns fs):=by
 refine mcx Tryz.func117 (by kernel_rfl) (by kernel_rfl) ?_
 conv=>whnf
 refine mcall (T:=TM parM) (φ:=[]) (gf:=false) (x_takeY hl ht h hk) ?_
 conv=>whnf
 refine known false rfl ?_
 conv=>whnf
 exact⟨rfl,rfl,rfl⟩
theorem x_mustN {K:Int} {ts:List Bs} (hl:l.length≤1000000) (ht:ts.length≤100) (h:nextB K ts (l.drop k)=false) (hk:k≤l.length):
  MPans Tryz.prog 117 [.bx 0 0,int K,tsV ts] (pM l k e ns fs) (faultV (offT e (l.drop k))):=by
 refine mpsx Tryz.func117 (by kernel_rfl) (by kernel_rfl) ?_
 conv=>whnf
 refine .inl ?_
 conv=>whnf
 refine mcall (T:=TM parM) (φ:=[]) (gf:=false) (x_takeN hl ht h hk) ?_
 conv=>whnf
 refine known true rfl ?_
 conv=>whnf
 refine .inr ?_
 exact mpan (T:=TM parM) (x_fail hl) rfl
abbrev ndV (n:Nd):V:= .ag [int n.kind,bstr n.text,int n.val,.sl false 1 (n.keys.map strD),.sl false 1 (n.kids.map intD)]
theorem x_add (n:Nd) (hn:ns.length≤1000000):
  MCalls Tryz.prog 159 [.bx 0 0,ndV n] (pM l k e ns fs) (int (ns.length:Nat)) (pM l k e (ns++[n]) fs):=by
 have e1:pM l k e (ns++[n]) fs=[pBox l k e 1 2,.row 0 153 5 false (ns.map ndD++[ndD n]),fRow fs]:=by simp only[pM,nRow,List.map_append,List.map_cons,List.map_nil]
 have e2:int (ns.length:Nat)=int (IntKind.i64.wrap ((((ns.map ndD++[ndD n]).length:Nat):Int) - 1)):=by
  rw[List.length_append,List.length_map,wrap_in (by simp;omega)];simp
 refine mcx Tryz.func159 (by kernel_rfl) (by kernel_rfl) ?_
 conv=>whnf
 refine⟨none,by kernel_rfl,?_⟩
 conv=>whnf
 refine⟨by rw[List.length_map];show(ns.length+1)*80≤_;omega,?_⟩
 conv=>whnf
 exact⟨rfl,by rw[e1];rfl,by rw[e2];rfl⟩
end
end Go.Proofs.YtdccglkagfdooaaGreatDoor
namespace Go.Proofs.YtdccglkagfdooaaGreatDoor
def getB {α:Type}:List (Bs×α)→Bs→Option α
 |[],_=>none
 |(k,x)::l,t=>if k=t then some x else getB l t
def putB {α:Type}:List (Bs×α)→Bs→α→List (Bs×α)
 |[],t,c=>[(t,c)]
 |(k,x)::l,t,c=>if k=t then(k,c)::l else(k,x)::putB l t c
def delB {α:Type}:List (Bs×α)→Bs→List (Bs×α)
 |[],_=>[]
 |(k,x)::l,t=>if k=t then l else(k,x)::delB l t
def builtT:List (Bs×Int):=[([108,101,110],1),([115,116,114],1),([105,110,116],1),([112,117,115,104],2),([112,117,116],3),([107,101,121,115],1),([104,97,115],2),([102,97,105,108],1)]
def hostT:List (Bs×Int):=[([103,101,116],1),([112,117,116],2),([100,101,108,101,116,101],1),([115,101,110,100],2),([116,105,109,101,114],3),([115,105,103,110,97,108],2),([115,101,99,114,101,116],1),([102,101,116,99,104],2),([110,111,119],0),([108,111,103],1)]
def wMain:Bs:=[109,97,105,110]
structure Scp where
 vis:List (Bs×Int)
 nx:Int
 sl:List Int
 er:List Int
def arF (x:Bs):List Fc→Option Int
 |[]=>none
 |s::l=>if s.name=x then some s.params.length else arF x l
def callE (fs:List Fc) (n:Nd):Int:=match(match arF n.text fs with|some k=>some k|none=>getB builtT n.text) with
 |none=>4
 |some k=>if k=n.kids.length then 0 else 7
def hostE (n:Nd):Int:=match getB hostT n.text with
 |none=>4
 |some k=>if k=n.kids.length then 0 else 7
def letS (at_:Nat) (t:Bs) (s:Scp):Scp:=
 let s1:Scp:={s with nx:=IntKind.i64.wrap (s.nx+1),sl:=s.sl.set at_ s.nx}
 match getB s.vis t with
 |some _=>{s1 with er:=s.er.set at_ 6}
 |none=>if s.nx=32 then {s1 with er:=s.er.set at_ 3} else {s1 with vis:=putB s.vis t s.nx}
def lastS (fs:List Fc) (at_:Nat) (n:Nd) (s:Scp):Scp:=
 if n.kind=5∨n.kind=14 then(match getB s.vis n.text with|some k=>{s with sl:=s.sl.set at_ k}|none=>{s with er:=s.er.set at_ 4})
 else if n.kind=13 then letS at_ n.text s
 else if n.kind=11 then {s with er:=s.er.set at_ (callE fs n)}
 else if n.kind=12 then(if hostE n=0 then s else {s with er:=s.er.set at_ (hostE n)})
 else s
def declS (ns:List Nd) (k:Nat) (s:Scp) (l:List Bs):List Bs:=match ns[k]? with
 |some x=>if x.kind=13∧s.er[k]?=some 0 then l++[x.text] else l
 |none=>l
def blkS (ns:List Nd) (w:Nat→Scp→Scp) (r:Scp×List Bs) (k:Int):Scp×List Bs:=(w k.toNat r.1,declS ns k.toNat (w k.toNat r.1) r.2)
def walkS (ns:List Nd) (fs:List Fc):Nat→Nat→Scp→Scp
 |0,_,s=>s
 |f+1,at_,s=>match ns[at_]? with
  |none=>s
  |some n=>if n.kind=19 then(let r:=n.kids.foldl (blkS ns (walkS ns fs f)) (s,[]);{r.1 with vis:=r.2.foldl delB r.1.vis}) else lastS fs at_ n (n.kids.foldl (fun s k=>walkS ns fs f k.toNat s) s)
end Go.Proofs.YtdccglkagfdooaaGreatDoor
namespace Go.Proofs.YtdccglkagfdooaaGreatDoor
open Go.RowKit
inductive Cl where
 |d (x:D)
 |r (E sz:Nat) (xs:List (List D))
 |o (i:Nat)
 |z
def RowOk (S:Nat→Prop) (w:World) (E sz:Nat) (xs:List (List D)) (u:Value):Prop:=
 ∃us,w.ownsRow 0 E sz u xs.length us∧(∀x∈xs,x.length=sz)∧0<sz∧∀i j d,(xs[i]?.bind fun x=>x[j]?)=some d→∃u',us[i*sz+j]?=some u'∧RelD S w d u'
theorem RowOk.slice {S:Nat→Prop} {w:World} {E sz:Nat} {xs:List (List D)} {u:Value} (h:RowOk S w E sz xs u):∃A c,u= .slice A xs.length c:=own_parts h.choose_spec.1
theorem RowOk.mono {S S':Nat→Prop} {w w':World} {E sz:Nat} {xs:List (List D)} {u:Value} (hS:∀g,S g→S' g) (hw:∀g,S g→w'.heap[g]?=w.heap[g]?) (hb:∀g,at1 u=some g→w'.heap[g]?=w.heap[g]?) (h:RowOk S w E sz xs u):RowOk S' w' E sz xs u:=by
 obtain⟨A,c,rfl⟩:=h.slice
 obtain⟨us,h1,h2,h3,h4⟩:=h
 refine⟨us,ownsRow_mono h1 hb,h2,h3,fun i j d hd=>?_⟩
 obtain⟨u',e1,e2⟩:=h4 i j d hd
 exact⟨u',e1,e2.mono hS hw⟩
inductive Cells (S:Nat→Prop) (w:World) (outs:List Value):List Cl→List Value→List Value→Prop
 |nil:Cells S w outs [] [] []
 |d {x:D} {u:Value} {cs:List Cl} {us ow:List Value} (h:RelD S w x u) (t:Cells S w outs cs us ow):Cells S w outs (.d x::cs) (u::us) ow
 |r {E sz:Nat} {xs:List (List D)} {u:Value} {cs:List Cl} {us ow:List Value} (h:RowOk S w E sz xs u) (t:Cells S w outs cs us ow):Cells S w outs (.r E sz xs::cs) (u::us) (u::ow)
 |o {i:Nat} {u:Value} {cs:List Cl} {us ow:List Value} (h:outs[i]?=some u) (h1:u.oneCell'=true) (t:Cells S w outs cs us ow):Cells S w outs (.o i::cs) (u::us) ow
 |z {u:Value} {cs:List Cl} {us ow:List Value} (h1:u.oneCell'=true) (t:Cells S w outs cs us ow):Cells S w outs (.z::cs) (u::us) ow
theorem Cells.mono {S S':Nat→Prop} {w w':World} {outs:List Value} {cs:List Cl} {us ow:List Value} (hS:∀g,S g→S' g) (hw:∀g,S g→w'.heap[g]?=w.heap[g]?) (h:Cells S w outs cs us ow):
  (∀u∈ow,∀g,at1 u=some g→w'.heap[g]?=w.heap[g]?)→Cells S' w' outs cs us ow:=by
 induction h with
 |nil=>intro _;exact .nil
 |d h _ ih=>intro hb;exact .d (h.mono hS hw) (ih hb)
 |r h _ ih=>intro hb;exact .r (h.mono hS hw (hb _ (by simp))) (ih fun u hu=>hb u (by simp[hu]))
 |o h h1 _ ih=>intro hb;exact .o h h1 (ih hb)
 |z h1 _ ih=>intro hb;exact .z h1 (ih hb)
theorem Cells.len {S:Nat→Prop} {w:World} {outs:List Value} {cs:List Cl} {us ow:List Value} (h:Cells S w outs cs us ow):cs.length=us.length:=by
 induction h<;>simp_all
theorem Cells.one {S:Nat→Prop} {w:World} {outs:List Value} {cs:List Cl} {us ow:List Value} (h:Cells S w outs cs us ow):∀u∈us,u.oneCell'=true:=by
 induction h with
 |nil=>simp
 |d h _ ih=>
  simp only[List.mem_cons];rintro u (rfl|hu)
  ·exact h.one
  ·exact ih u hu
 |r h _ ih=>
  obtain⟨A,c,rfl⟩:=h.slice
  simp only[List.mem_cons];rintro u (rfl|hu)
  ·rfl
  ·exact ih u hu
 |o _ h1 _ ih=>
  simp only[List.mem_cons];rintro u (rfl|hu)
  ·exact h1
  ·exact ih u hu
 |z h1 _ ih=>
  simp only[List.mem_cons];rintro u (rfl|hu)
  ·exact h1
  ·exact ih u hu
theorem Cells.tl {S:Nat→Prop} {w:World} {outs:List Value} {c:Cl} {cs:List Cl} {u:Value} {us ow:List Value} (h:Cells S w outs (c::cs) (u::us) ow):∃ow',ow'.Sublist ow∧Cells S w outs cs us ow':=by
 cases h with
 |d _ t=>exact⟨_,List.Sublist.refl _,t⟩
 |r _ t=>exact⟨_,List.sublist_cons_self _ _,t⟩
 |o _ _ t=>exact⟨_,List.Sublist.refl _,t⟩
 |z _ t=>exact⟨_,List.Sublist.refl _,t⟩
theorem Cells.app {S:Nat→Prop} {w:World} {outs:List Value} {cs cs':List Cl} {us us' ow ow':List Value} (h:Cells S w outs cs us ow) (h':Cells S w outs cs' us' ow'):Cells S w outs (cs++cs') (us++us') (ow++ow'):=by
 induction h with
 |nil=>exact h'
 |d h _ ih=>exact .d h ih
 |r h _ ih=>exact .r h ih
 |o h h1 _ ih=>exact .o h h1 ih
 |z h1 _ ih=>exact .z h1 ih
theorem Cells.unapp {S:Nat→Prop} {w:World} {outs:List Value} {cs':List Cl}:∀{cs:List Cl} {us ow:List Value},Cells S w outs (cs++cs') us ow→
  ∃us1 us2 ow1 ow2,us=us1++us2∧ow=ow1++ow2∧Cells S w outs cs us1 ow1∧Cells S w outs cs' us2 ow2
 |[],us,ow,h=>⟨[],us,[],ow,rfl,rfl,.nil,h⟩
 |c::cs,us,ow,h=>by
  simp only[List.cons_append] at h
  cases h with
  |d h t=>
   obtain⟨us1,us2,ow1,ow2,rfl,rfl,h1,h2⟩:=t.unapp
   exact⟨_::us1,us2,ow1,ow2,rfl,rfl,.d h h1,h2⟩
  |r h t=>
   obtain⟨us1,us2,ow1,ow2,rfl,rfl,h1,h2⟩:=t.unapp
   exact⟨_::us1,us2,_::ow1,ow2,rfl,rfl,.r h h1,h2⟩
  |o h h1' t=>
   obtain⟨us1,us2,ow1,ow2,rfl,rfl,h1,h2⟩:=t.unapp
   exact⟨_::us1,us2,ow1,ow2,rfl,rfl,.o h h1' h1,h2⟩
  |z h1' t=>
   obtain⟨us1,us2,ow1,ow2,rfl,rfl,h1,h2⟩:=t.unapp
   exact⟨_::us1,us2,ow1,ow2,rfl,rfl,.z h1' h1,h2⟩
def Dj (l:List Value):Prop:=l.Pairwise fun u v=>∀g,at1 u=some g→at1 v=some g→False
theorem Dj.get {l:List Value} (h:Dj l) {i j:Nat} {u v:Value} {g:Nat} (hi:l[i]?=some u) (hj:l[j]?=some v) (hu:at1 u=some g) (hv:at1 v=some g):i=j:=by
 rcases Nat.lt_trichotomy i j with hlt|h'|hlt
 ·obtain⟨hi',rfl⟩:=List.getElem?_eq_some_iff.1 hi
  obtain⟨hj',rfl⟩:=List.getElem?_eq_some_iff.1 hj
  exact(List.pairwise_iff_getElem.1 h i j hi' hj' hlt g hu hv).elim
 ·exact h'
 ·obtain⟨hi',rfl⟩:=List.getElem?_eq_some_iff.1 hi
  obtain⟨hj',rfl⟩:=List.getElem?_eq_some_iff.1 hj
  exact(List.pairwise_iff_getElem.1 h j i hj' hi' hlt g hv hu).elim
structure Main where
 ok:World→Value→List Value→Prop
 mono:∀{w w':World} {v:Value} {us:List Value},(∀g,at1 v=some g→w'.heap[g]?=w.heap[g]?)→ok w v us→ok w' v us
 one:∀{w:World} {v:Value} {us:List Value},ok w v us→v.oneCell'=true
def ctA (M:Main) (cs:List Cl):Asrt where
 ok:=fun S w v outs=>∃main us own,v= .agg (main::own).toArray∧M.ok w main us∧Cells S w outs cs us own∧Dj (main::own)
 mono:=by
  rintro S S' w w' v us hS hw hb ⟨main,raw,own,rfl,h1,h2,h3⟩
  refine⟨main,raw,own,rfl,M.mono (fun g hg=>hb g ⟨main,by simp,hg⟩) h1,h2.mono hS hw fun u hu g hg=>hb g ⟨u,by simp[hu],hg⟩,h3⟩
 one:=by
  rintro S w fs us ⟨main,raw,own,h0,h1,_⟩
  cases h0
  simpa using M.one h1
theorem at_ct {main:Value} {own:List Value} {g:Nat}:At (.agg (main::own).toArray) g↔∃u∈main::own,at1 u=some g:=by
 simp[At]
def GhM (m m':List (Option Bk)):Prop:=∀(B:Fr) (w0:World) (N:Names) (S:Sets) (t:List V) (a:Act) (w:World),Sat B w0 N S t m a w→∃N' S',Sat B w0 N' S' t m' a w∧∀v u,RelV N S w v u→RelV N' S' w v u
theorem GhM.refl (m:List (Option Bk)):GhM m m:=fun _ _ N S _ _ _ hs=>⟨N,S,hs,fun _ _ h=>h⟩
theorem GhM.trans {m m1 m2:List (Option Bk)} (h:GhM m m1) (h':GhM m1 m2):GhM m m2:=fun B w0 N S t a w hs=>by
 obtain⟨N1,S1,h1,r1⟩:=h B w0 N S t a w hs
 obtain⟨N2,S2,h2,r2⟩:=h' B w0 N1 S1 t a w h1
 exact⟨N2,S2,h2,fun v u hv=>r2 v u (r1 v u hv)⟩
theorem GhM.gh {m m':List (Option Bk)} {t:List V} (h:GhM m m'):Gh ⟨t,m⟩ ⟨t,m'⟩:=fun B w0 N S a w hs=>by
 obtain⟨N',S',h1,_⟩:=h B w0 N S t a w hs
 exact⟨N',S',h1⟩
theorem Gh.refl (st:St):Gh st st:=fun _ _ N S _ _ hs=>⟨N,S,hs⟩
theorem ot_pre {P:Program} {o:Oper} {E:Operand→V} {m m1 m2:List (Option Bk)} {v:V} (h:GhM m m1) (h':OpTr P o E m1 v m2):OpTr P o E m v m2:=fun B w0 N S t a w hs hx=>by
 obtain⟨N1,S1,h1,r1⟩:=h B w0 N S t a w hs
 exact h' B w0 N1 S1 t a w h1 fun x hx'=>r1 _ _ (hx x hx')
theorem ot_rd {P:Program} {o:Oper} {E:Operand→V} {m:List (Option Bk)} {v:V} (h:OpRd P o E m v):OpTr P o E m v m:=fun B w0 N S t a w hs hx Q=>by
 refine Oper.wp_mono' (h B w0 N S t m a w hs (fun _ _ h=>h) hx Q) ?_
 rintro a' w' ⟨u,he,rfl,hr⟩
 exact⟨u,he,N,S,hs,hr⟩
section
variable {P:Program} {T:Tab} {B:Fr} {w0:World} {N:Names} {S:Sets} {t:List V} {m:List (Option Bk)} {a:Act} {w:World}
theorem agg_hdv {main:Value} {own:List Value}:hdv (.agg (main::own).toArray)=main:=by simp[hdv]
theorem ct_val (hs:Sat B w0 N S t m a w) {n k:Nat} {M:Main} {cs:List Cl} {outs:List V} (hm:m[n]?=some (some (.asr k (ctA M cs) outs))):
  ∃main us own uo,N n=some (k,.agg (main::own).toArray)∧RelL N S w outs uo∧M.ok w main us∧Cells (S false) w uo cs us own∧Dj (main::own):=by
 obtain⟨fs,uo,h1,h2,main,us,own,h3,h4,h5,h6⟩:=hs.blk n _ hm
 cases h3
 exact⟨main,us,own,uo,h1,h2,h4,h5,h6⟩
theorem RelD.up (hs:Sat B w0 N S t m a w) {f:Bool} {d:D} {u:Value} (h:RelD (S f) w d u):RelD (S false) w d u:=by
 cases f
 ·exact h
 ·exact h.mono (fun g hg=>(hs.fresh g hg).1) fun _ _=>rfl
end
end Go.Proofs.YtdccglkagfdooaaGreatDoor
namespace Go.Proofs.YtdccglkagfdooaaGreatDoor
open Go.RowKit
def rowM (E sz n:Nat):Main where
 ok:=fun w v us=>w.ownsRow 0 E sz v n us
 mono:=fun {w w' v us} hb h=>by
  obtain⟨A,c,rfl⟩:=own_parts h
  exact ownsRow_mono h hb
 one:=fun h=>by obtain⟨A,c,rfl⟩:=own_parts h;rfl
abbrev rowC (E sz:Nat) (rs:List (List Cl)):Asrt:=ctA (rowM E sz rs.length) rs.flatten
theorem flat_at {α:Type} {xs:List (List α)} {sz i j:Nat} {d:α} (hx:∀x∈xs,x.length=sz) (h:(xs[i]?.bind fun x=>x[j]?)=some d):xs.flatten[i*sz+j]?=some d:=by
 induction xs generalizing i with
 |nil=>simp at h
 |cons x xs ih=>
  have hl:x.length=sz:=hx x (by simp)
  cases i with
  |zero=>
   simp only[List.getElem?_cons_zero,Option.bind_some] at h
   rw[List.flatten_cons,Nat.zero_mul,Nat.zero_add,List.getElem?_append_left (lt_of_get h)]
   exact h
  |succ i=>
   simp only[List.getElem?_cons_succ] at h
   rw[List.flatten_cons,List.getElem?_append_right (by rw[hl,Nat.succ_mul];omega)]
   rw[show(i+1)*sz+j - x.length=i*sz+j by rw[hl,Nat.succ_mul];omega]
   exact ih (fun x hx'=>hx x (by simp[hx'])) h
theorem flat_length {α:Type} {xs:List (List α)} {sz:Nat} (hx:∀x∈xs,x.length=sz):xs.flatten.length=xs.length*sz:=by
 induction xs with
 |nil=>simp
 |cons x xs ih=>simp[ih fun y hy=>hx y (by simp[hy]),hx x (by simp),Nat.succ_mul,Nat.add_comm]
def Cl.v (outs:List V):Cl→V
 | .d x=>x.v false
 | .o i=>outs.getD i .un
 | .r .. => .un
 | .z=> .un
section
variable {P:Program} {T:Tab} {B:Fr} {w0:World} {N:Names} {S:Sets} {t:List V} {m:List (Option Bk)} {a:Act} {w:World}
theorem ow_of {n k:Nat} {v u:Value} (h1:N n=some (k,v)) (h:RelV N S w (.ow n k) u):u=hdv v:=by
 cases h with
 |ow _ _ _ _ hn=>
  obtain⟨k',v',h2,_,h4⟩:=hn
  rw[h1] at h2;cases h2
  exact h4 rfl
theorem oq_of {n k sz i o:Nat} {v u:Value} (h1:N n=some (k,v)) (h:RelV N S w (.oq n k sz i o) u):∃b len cap,hdv v= .slice (some ⟨b,0,none⟩) len cap∧u= .pointer (some ⟨b,i*sz+o,none⟩):=by
 cases h with
 |oq _ _ _ _ _ _ _ hn=>
  obtain⟨k',v',h2,_,h4⟩:=hn
  rw[h1] at h2;cases h2
  exact h4 rfl
theorem Cells.at {outs:List V} {uo:List Value} {cs:List Cl} {us ow:List Value} (h:Cells (S false) w uo cs us ow) (ho:RelL N S w outs uo):∀{p:Nat} {c:Cl},cs[p]?=some c→∃u,us[p]?=some u∧RelV N S w (c.v outs) u:=by
 induction h with
 |nil=>intro p c h;simp at h
 |d h _ ih=>
  intro p c hp
  cases p with
  |zero=>simp at hp;subst hp;exact⟨_,rfl,.ofD (f:=false) h⟩
  |succ p=>exact ih (by simpa using hp)
 |r h _ ih=>
  intro p c hp
  cases p with
  |zero=>simp at hp;subst hp;exact⟨_,rfl,.un _⟩
  |succ p=>exact ih (by simpa using hp)
 |@o i u _ _ _ h h1 _ ih=>
  intro p c hp
  cases p with
  |zero=>
   simp at hp;subst hp
   refine⟨_,rfl,?_⟩
   have hlt:i<outs.length:=by rw[ho.1];exact lt_of_get h
   have:=ho.2 i _ (List.getElem?_eq_getElem hlt)
   have e:uo.getD i undef=u:=by simp[List.getD_eq_getElem?_getD,h]
   rw[e] at this
   simpa[Cl.v,List.getD_eq_getElem?_getD,List.getElem?_eq_getElem hlt] using this
  |succ p=>exact ih (by simpa using hp)
 |z h1 _ ih=>
  intro p c hp
  cases p with
  |zero=>simp at hp;subst hp;exact⟨_,rfl,.un _⟩
  |succ p=>exact ih (by simpa using hp)
theorem rowC_cells (hs:Sat B w0 N S t m a w) {n k E sz:Nat} {rs:List (List Cl)} {outs:List V} (hm:m[n]?=some (some (.asr k (rowC E sz rs) outs))) (h0:rs≠[]):
  ∃g cap cur own uo,N n=some (k,.agg (.slice (some ⟨g,0,none⟩) rs.length cap::own).toArray)∧w.heap[g]?=some (.cells cur E (0,0))∧rs.length≤cap∧cap≤maxLen∧cur.size=cap*sz∧RelL N S w outs uo∧
   Cells (S false) w uo rs.flatten (cur.toList.take (rs.length*sz)) own∧Dj (.slice (some ⟨g,0,none⟩) rs.length cap::own):=by
 obtain⟨main,us,own,uo,h1,h2,h3,h4,h5⟩:=ct_val hs hm
 rcases h3.2 with⟨_,h⟩|⟨g,cap,cur,rfl,_,e1,e2,e3,e4,rfl⟩
 ·exact absurd (List.eq_nil_of_length_eq_zero h) h0
 ·exact⟨g,cap,cur,own,uo,h1,e1,e2,e3,e4,h2,h4,h5⟩
theorem rd_ct_index (hT:TOk P T) {o:Oper} {E:Operand→V} {ty e n k Er sz:Nat} {x i:Operand} {q:IntKind} {j:Int} {rs:List (List Cl)} {outs:List V} {it ie:TI} (ho:o.op= .indexAddr ty x i) (hty:T ty=some it) (hkd:it.kd= .slice e) (hie:T e=some ie) (hsz:ie.size=sz)
  (hx:E x= .ow n k) (hi:E i= .cv (.int q j)) (hm:m[n]?=some (some (.asr k (rowC Er sz rs) outs))) (hj:0≤j) (hlt:j.toNat<rs.length):OpRd P o E m (.oq n k sz j.toNat 0):=by
 intro B w0 N S t m2 a w hs hup hr
 have hm2:=hup n _ hm
 obtain⟨g,cap,cur,own,uo,h1,_⟩:=rowC_cells hs hm2 (by rintro rfl;simp at hlt)
 have hx':=hr x (by rw[ho];simp[Op.operands])
 have hi':=hr i (by rw[ho];simp[Op.operands])
 rw[hx] at hx';rw[hi] at hi'
 generalize hu:a.eval x=u at hx'
 generalize hv:a.eval i=v at hi'
 cases hi'
 have hu2:=ow_of h1 hx'
 simp only[agg_hdv] at hu2
 subst hu2
 refine opOk_val (u:= .pointer (some ⟨g,j.toNat*sz,none⟩)) (w':=w) ?_ ⟨rfl,.oq n k sz _ 0 _ rfl ⟨k,_,h1,Nat.le_refl _,fun _=>⟨g,rs.length,cap,by simp[hdv],by simp⟩⟩⟩
 unfold execOp
 simp only[ho]
 refine run_v ?_
 rw[hu,hv]
 have hsl:=hT.kd_slice hty hkd
 have hc2:0≤j∧j<(rs.length:Int):=⟨hj,by omega⟩
 simp[Instr.indexAt,run_underlying hsl,asIntOf,hc2,hT.size hie,hsz,add_mk]
theorem rd_ct_len {o:Oper} {E:Operand→V} {ty e n k Er sz:Nat} {x:Operand} {rs:List (List Cl)} {outs:List V} (ho:o.op= .call {callee:= .builtin .len,args:= #[x],argTypes:= #[ty]}) (hty:P.underlying ty=some (.slice e))
  (hx:E x= .ow n k) (hm:m[n]?=some (some (.asr k (rowC Er sz rs) outs))):OpRd P o E m (.cv (.int .i64 ((rs.length:Nat):Int))):=by
 intro B w0 N S t m2 a w hs hup hr
 have hm2:=hup n _ hm
 obtain⟨main,us,own,uo,h1,_,h3,_⟩:=ct_val hs hm2
 have hx':=hr x (by rw[ho];simp[Op.operands,Call.operands])
 rw[hx] at hx'
 generalize hu:a.eval x=u at hx'
 have hu2:=ow_of h1 hx'
 simp only[agg_hdv] at hu2
 subst hu2
 obtain⟨A,c,rfl⟩:=own_parts h3
 refine opOk_val (u:= .int .i64 ((rs.length:Nat):Int)) (w':=w) ?_ ⟨rfl,.cv _⟩
 unfold execOp
 simp only[ho]
 simp[resolve,invoke,builtin,hu,Builtin.len_,run_underlying hty,goInt]
theorem rd_ct_load (hT:TOk P T) {o:Oper} {E:Operand→V} {ty n k Er sz j off:Nat} {x:Operand} {i:TI} {rs:List (List Cl)} {cells:List Cl} {outs:List V} {v:V} (ho:o.op= .load ty x) (hi:T ty=some i) (hx:E x= .oq n k sz j off) (hm:m[n]?=some (some (.asr k (rowC Er sz rs) outs)))
  (hrs:∀r∈rs,r.length=sz) (hj:rs[j]?=some cells) (hl:loadK i (cells.map (Cl.v outs)) off fun v'=>v'=v):OpRd P o E m v:=by
 intro B w0 N S t m2 a w hs hup hr
 have hm2:=hup n _ hm
 obtain⟨g,cap,cur,own,uo,h1,h2,h3,h4,h5,h6,h7,h8⟩:=rowC_cells hs hm2 (by rintro rfl;simp at hj)
 have hx':=hr x (by rw[ho];simp[Op.operands])
 rw[hx] at hx'
 generalize hu:a.eval x=u at hx'
 obtain⟨b,len,cp,e4,rfl⟩:=oq_of h1 hx'
 rw[agg_hdv] at e4
 cases e4
 obtain⟨u,v1,hrun,hrel,rfl⟩:=loadK_sound (P:=P) hT hi (cs:=cells.map (Cl.v outs)) (off:=off) (g:=g) (p:=j*sz) (N:=N) (S:=S) (w:=w) (fun q v hq=>by
  rw[List.getElem?_map,Option.map_eq_some_iff] at hq
  obtain⟨c,hc,rfl⟩:=hq
  obtain⟨u,hu1,hu2⟩:=h7.at h6 (flat_at (i:=j) (j:=q) hrs (by rw[hj];exact hc))
  refine⟨u,?_,hu2⟩
  rw[cell_of_row w g _ cur Er _ h2]
  rw[List.getElem?_take] at hu1
  split at hu1
  ·simpa using hu1
  ·cases hu1) hl
 refine opOk_val (u:=u) (w':=w) ?_ ⟨rfl,hrel⟩
 unfold execOp
 simp only[ho]
 refine run_v ?_
 rw[hu]
 simp[Instr.loadAt,Instr.sureAddr,hrun]
end
end Go.Proofs.YtdccglkagfdooaaGreatDoor
namespace Go.Proofs.YtdccglkagfdooaaGreatDoor
open Go.RowKit
def mapM (keys:List ByteArray):Main where
 ok:=fun w v us=>∃b ents clock,v= .map (some b)∧w.heap[b]?=some (.map ents clock)∧ents.toList.map (·.key)=keys.map Value.string∧ents.toList.map (·.val)=us∧keys.Nodup∧∀u∈us,u.oneCell'=true
 mono:=fun {w w' v us} hb ⟨b,ents,clock,h1,h2,h3⟩=>⟨b,ents,clock,h1,(hb b (by rw[h1];rfl)).trans h2,h3⟩
 one:=fun⟨b,ents,clock,h1,_⟩=>by rw[h1];rfl
abbrev mapC (es:List (ByteArray×Cl)):Asrt:=ctA (mapM (es.map (·.1))) (es.map (·.2))
def getE {α:Type}:List (ByteArray×α)→ByteArray→Option α
 |[],_=>none
 |(k,c)::l,x=>if k=x then some c else getE l x
def putE {α:Type}:List (ByteArray×α)→ByteArray→α→List (ByteArray×α)
 |[],x,c=>[(x,c)]
 |(k,d)::l,x,c=>if k=x then(x,c)::l else(k,d)::putE l x c
def delE {α:Type}:List (ByteArray×α)→ByteArray→List (ByteArray×α)
 |[],_=>[]
 |(k,d)::l,x=>if k=x then l else(k,d)::delE l x
theorem getE_none {α:Type}:∀{l:List (ByteArray×α)} {x:ByteArray},getE l x=none↔x∉l.map (·.1)
 |[],x=>by simp[getE]
 |(k,c)::l,x=>by
  unfold getE
  split
  ·rename_i h;subst h;simp
  ·rename_i h;rw[getE_none];simp[Ne.symm h]
theorem getE_some {α:Type}:∀{l:List (ByteArray×α)} {x:ByteArray} {c:α},getE l x=some c→∃l1 l2,l=l1++(x,c)::l2∧x∉l1.map (·.1)
 |[],x,c,h=>by simp[getE] at h
 |(k,d)::l,x,c,h=>by
  unfold getE at h
  split at h
  ·rename_i e;subst e;cases h;exact⟨[],l,rfl,by simp⟩
  ·rename_i e
   obtain⟨l1,l2,rfl,h2⟩:=getE_some h
   exact⟨(k,d)::l1,l2,rfl,by simp[Ne.symm e];simpa using h2⟩
theorem putE_new {α:Type}:∀{l:List (ByteArray×α)} {x:ByteArray} {c:α},x∉l.map (·.1)→putE l x c=l++[(x,c)]
 |[],x,c,_=>rfl
 |(k,d)::l,x,c,h=>by
  simp only[List.map_cons,List.mem_cons,not_or] at h
  unfold putE
  rw[if_neg (Ne.symm h.1),putE_new h.2];rfl
theorem putE_old {α:Type} {x:ByteArray} {c d:α} {l2:List (ByteArray×α)}:∀{l1:List (ByteArray×α)},x∉l1.map (·.1)→putE (l1++(x,d)::l2) x c=l1++(x,c)::l2
 |[],_=>by simp[putE]
 |(k,d')::l,h=>by
  simp only[List.map_cons,List.mem_cons,not_or] at h
  simp only[List.cons_append,putE]
  rw[if_neg (Ne.symm h.1),putE_old h.2]
theorem delE_old {α:Type} {x:ByteArray} {d:α} {l2:List (ByteArray×α)}:∀{l1:List (ByteArray×α)},x∉l1.map (·.1)→delE (l1++(x,d)::l2) x=l1++l2
 |[],_=>by simp[delE]
 |(k,d')::l,h=>by
  simp only[List.map_cons,List.mem_cons,not_or] at h
  simp only[List.cons_append,delE]
  rw[if_neg (Ne.symm h.1),delE_old h.2]
theorem delE_new {α:Type}:∀{l:List (ByteArray×α)} {x:ByteArray},x∉l.map (·.1)→delE l x=l
 |[],x,_=>rfl
 |(k,d)::l,x,h=>by
  simp only[List.map_cons,List.mem_cons,not_or] at h
  unfold delE
  rw[if_neg (Ne.symm h.1),delE_new h.2]
section
variable {P:Program} {T:Tab} {B:Fr} {w0:World} {N:Names} {S:Sets} {t:List V} {m:List (Option Bk)} {a:Act} {w:World}
theorem find_str (w:World) {k:TypeId} (hk:P.underlying k=some .string) (s:ByteArray) (l:List MapEntry) {keys:List ByteArray} (hl:l.map (·.key)=keys.map Value.string):
  ((Instr.findKey k (.string s) l).run P w= .ok none w∧s∉keys)∨∃j e,(Instr.findKey k (.string s) l).run P w= .ok (some (j,e.val)) w∧l[j]?=some e∧e.key= .string s∧keys[j]?=some s:=by
 have hks:∀x∈l,MapKept.IsKey .string x.key:=fun x hx=>by
  have:x.key∈l.map (·.key):=List.mem_map_of_mem hx
  rw[hl] at this
  obtain⟨s',_,h⟩:=List.mem_map.1 this
  rw[←h];trivial
 rcases MapKept.findNow_spec (d:= .string) (k:= .string s) trivial l 0 hks with⟨h1,h2⟩|⟨j,e0,h1,h2,h3⟩
 ·refine .inl ⟨MapKept.run_findKey hk h1,fun hs=>?_⟩
  have:Value.string s∈keys.map Value.string:=List.mem_map_of_mem hs
  rw[←hl] at this
  obtain⟨x,hx,he⟩:=List.mem_map.1 this
  exact h2 x hx he
 ·refine .inr ⟨j,e0,by simpa using MapKept.run_findKey hk h1,h2,h3,?_⟩
  have:(l.map (·.key))[j]?=some e0.key:=by simp[h2]
  rw[hl,List.getElem?_map,h3] at this
  cases hkj:keys[j]? with
  |none=>rw[hkj] at this;cases this
  |some s'=>rw[hkj] at this;simp at this;rw[this]
theorem check_str (w:World) {k:TypeId} (hk:P.underlying k=some .string) (s:ByteArray) (e:Bool):(Instr.checkKey e 10000 k (.string s)).run P w= .ok () w:=MapKept.run_checkKey (k:= .string s) hk trivial e 9999
theorem mapC_val (hs:Sat B w0 N S t m a w) {n k:Nat} {es:List (ByteArray×Cl)} {outs:List V} (hm:m[n]?=some (some (.asr k (mapC es) outs))):
  ∃b ents clock own uo,N n=some (k,.agg (.map (some b)::own).toArray)∧w.heap[b]?=some (.map ents clock)∧ents.toList.map (·.key)=(es.map (·.1)).map Value.string∧(es.map (·.1)).Nodup∧RelL N S w outs uo∧(∀u∈ents.toList.map (·.val),u.oneCell'=true)∧
   Cells (S false) w uo (es.map (·.2)) (ents.toList.map (·.val)) own∧Dj (.map (some b)::own):=by
 obtain⟨main,us,own,uo,h1,h2,⟨b,ents,clock,rfl,e1,e2,rfl,e3,e4⟩,h4,h5⟩:=ct_val hs hm
 exact⟨b,ents,clock,own,uo,h1,e1,e2,e3,h2,e4,h4,h5⟩
theorem map_ref {n k b:Nat} {own:List Value} (h1:N n=some (k,.agg (.map (some b)::own).toArray)) {u:Value} (h:RelV N S w (.ow n k) u):u= .map (some b):=by
 have:=ow_of h1 h
 rwa [agg_hdv] at this
theorem getE_at {es:List (ByteArray×Cl)} {s:ByteArray} {j:Nat} (hd:(es.map (·.1)).Nodup) (hj:(es.map (·.1))[j]?=some s):∃c,getE es s=some c∧es[j]?=some (s,c):=by
 rw[List.getElem?_map,Option.map_eq_some_iff] at hj
 obtain⟨⟨s',c⟩,h1,rfl⟩:=hj
 refine⟨c,?_,h1⟩
 cases hg:getE es s' with
 |none=>exact absurd (List.mem_map_of_mem (f:=(·.1)) (List.mem_of_getElem? h1)) (getE_none.1 hg)
 |some c'=>
  obtain⟨l1,l2,rfl,h3⟩:=getE_some hg
  congr 1
  rw[List.map_append,List.map_cons] at hd
  have hd2:s' ∉l2.map (·.1):=fun h=>(List.nodup_cons.1 (List.nodup_append.1 hd).2.1).1 h
  rw[List.getElem?_append] at h1
  split at h1
  ·exact absurd (List.mem_map_of_mem (f:=(·.1)) (List.mem_of_getElem? h1)) h3
  ·cases hq:j - l1.length with
   |zero=>rw[hq] at h1;simp at h1;exact h1
   |succ q=>
    rw[hq] at h1
    simp at h1
    exact absurd (List.mem_map_of_mem (f:=(·.1)) (List.mem_of_getElem? h1)) hd2
theorem rd_look {o:Oper} {E:Operand→V} {ty key e n k:Nat} {x i:Operand} {ok:Bool} {s:ByteArray} {es:List (ByteArray×Cl)} {outs:List V} {z:Value} (ho:o.op= .lookup ty x i ok)
  (hty:P.underlying ty=some (.map key e)) (hk:P.underlying key=some .string) (hz:(P.info? e).bind (·.zero)=some z)
  (hx:E x= .ow n k) (hi:E i= .cv (.string s)) (hm:m[n]?=some (some (.asr k (mapC es) outs))) {v:V}
  (hv:v=match ok,getE es s with|true,some c=> .tu [c.v outs,.cv (.bool true)]|true,none=> .tu [.cv z,.cv (.bool false)]|false,some c=>c.v outs|false,none=> .cv z):OpRd P o E m v:=by
 intro B w0 N S t m2 a w hs hup hr
 have hm2:=hup n _ hm
 obtain⟨b,ents,clock,own,uo,h1,h2,h3,h4,h5,h6,h7,h8⟩:=mapC_val hs hm2
 have hx':=hr x (by rw[ho];simp[Op.operands])
 have hi':=hr i (by rw[ho];simp[Op.operands])
 rw[hx] at hx';rw[hi] at hi'
 generalize hu:a.eval x=u at hx'
 generalize hv':a.eval i=v' at hi'
 cases hi'
 have:=map_ref h1 hx'
 subst this
 have hzr:∀w,(zeroValue e).run P w= .ok z w:=fun w=>by
  cases hi:P.info? e with
  |none=>rw[hi] at hz;cases hz
  |some ti=>rw[hi] at hz;simp only[Option.bind_some] at hz;simp[zeroValue,typeInfo,hi,hz]
 have run:∀{r:Value} {v1:V},(Instr.lookup ty (.map (some b)) (.string s) ok).run P w= .ok r w→RelV N S w v1 r→v=v1→OpOk P o a w fun u w'=>w'=w∧RelV N S w v u:=by
  intro r v1 hrun hrel hvv
  subst hvv
  refine opOk_val (u:=r) (w':=w) ?_ ⟨rfl,hrel⟩
  unfold execOp
  simp only[ho]
  refine run_v ?_
  rw[hu,hv']
  exact hrun
 have tup:∀{v1:V} {r:Value} {bb:Bool},RelV N S w v1 r→RelV N S w (.tu [v1,.cv (.bool bb)]) (.tuple #[r,.bool bb]):=by
  intro v1 r bb h
  refine .tu _ _ rfl fun i v hv=>?_
  match i with
  |0=>simp at hv;subst hv;exact h
  |1=>simp at hv;subst hv;exact .cv _
  |i+2=>simp at hv
 rcases find_str (P:=P) w hk s ents.toList h3 with⟨f1,f2⟩|⟨j,e0,f1,f2,f3,f4⟩
 ·have hg:getE es s=none:=getE_none.2 f2
  cases ok
  ·refine run (r:=z) ?_ (.cv _) (by rw[hv,hg])
   simp[Instr.lookup,run_underlying hty,MapKept.run_getObj_map h2,check_str w hk,f1,hzr,Result.andThen]
  ·refine run (r:= .tuple #[z,.bool false]) ?_ (tup (.cv _)) (by rw[hv,hg])
   simp[Instr.lookup,run_underlying hty,MapKept.run_getObj_map h2,check_str w hk,f1,hzr,Result.andThen]
 ·obtain⟨c,g1,g2⟩:=getE_at h4 f4
  obtain⟨u,g3,g4⟩:=h7.at h5 (p:=j) (c:=c) (by simp[g2])
  have hu0:u=e0.val:=by simpa[f2] using g3.symm
  subst hu0
  cases ok
  ·refine run (r:=e0.val) ?_ g4 (by rw[hv,g1])
   simp[Instr.lookup,run_underlying hty,MapKept.run_getObj_map h2,check_str w hk,f1,Result.andThen]
  ·refine run (r:= .tuple #[e0.val,.bool true]) ?_ (tup g4) (by rw[hv,g1])
   simp[Instr.lookup,run_underlying hty,MapKept.run_getObj_map h2,check_str w hk,f1,Result.andThen]
end
end Go.Proofs.YtdccglkagfdooaaGreatDoor
