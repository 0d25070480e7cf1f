/- Texts joined by pack.py: XSxB XSxC XSxCh XSxD -/
import Derived.Test.YtdccglkagfdooaaGreatDoorBz1
namespace Go.Proofs.YtdccglkagfdooaaGreatDoor
open Go.RowKit
theorem RelD.mono {S S':Nat→Prop} {w w':World} (hS:∀g,S g→S' g) (hw:∀g,S g→w'.heap[g]?=w.heap[g]?) {d:D} {u:Value} (h:RelD S w d u):RelD S' w' d u:=by
 induction h with
 |cv v h1=>exact .cv v h1
 |nil sz A cap=>exact .nil sz A cap
 |sl sz xs b o cap u hb hx hcap hc _ ih=>exact .sl sz xs b o cap u (hS _ hb) hx hcap (fun i j d h=>(World.cell?_of_block (w:=w) (hw _ hb)).trans (hc i j d h)) ih
theorem RelD.one {S:Nat→Prop} {w:World} {d:D} {u:Value} (h:RelD S w d u):u.oneCell'=true:=by
 cases h<;>first|assumption|rfl
theorem RelD.flat {S S':Nat→Prop} {w w':World} {v u:Value} (h:RelD S w (.cv v) u):RelD S' w' (.cv v) u:=by
 cases h;exact .cv _ (by assumption)
def NLe (N N':Names):Prop:=∀n k v,N n=some (k,v)→N' n=some (k,v)∨((∃A l c,v= .slice A l c)∧∃k' v',N' n=some (k',v')∧k<k')∨(∃us us' k',v= .agg us∧N' n=some (k',.agg us')∧(k<k'∨(k=k'∧us'.getD 0 undef=us.getD 0 undef)))
theorem NLe.ptr {N N':Names} (h:NLe N N') {n k:Nat} {p:Option Addr} (hn:N n=some (k,.pointer p)):N' n=some (k,.pointer p):=by
 rcases h _ _ _ hn with h|⟨⟨A,l,c,h⟩,_⟩|⟨us,us',k',h,_⟩
 ·exact h
 ·cases h
 ·cases h
theorem NLe.refl (N:Names):NLe N N:=fun _ _ _ h=> .inl h
theorem RelV.mono {N N':Names} {S S':Sets} {w w':World} (hN:NLe N N') (hS:∀f g,S f g→S' f g) (hw:∀f g,S f g→w'.heap[g]?=w.heap[g]?) {v:V} {u:Value} (h:RelV N S w v u):RelV N' S' w' v u:=by
 induction h with
 |un v=>exact .un v
 |cv v=>exact .cv v
 |kb b=>exact .kb b
 |sl f sz xs v h=>exact .sl f sz xs v (h.mono (hS f) (hw f))
 |el f cells o b off hb u hc=>exact .el f cells o b off (hS _ _ hb) u fun j d hj=>⟨(World.cell?_of_block (w:=w) (hw _ _ hb)).trans (hc j d hj).1,(hc j d hj).2.mono (hS f) (hw f)⟩
 |bx n o b hn=>exact .bx n o b (hN.ptr hn)
 |ic t n b hn=>exact .ic t n b (hN.ptr hn)
 |ow n k u hu hn=>
  obtain⟨k',v,hn,hk,he⟩:=hn
  rcases hN _ _ _ hn with h|⟨_,k'',v',h,hlt⟩|⟨us,us',k'',rfl,h,hlt⟩
  ·exact .ow n k u hu ⟨k',v,h,hk,he⟩
  ·exact .ow n k u hu ⟨k'',v',h,by omega,fun e=>by omega⟩
  ·exact .ow n k u hu ⟨k'',_,h,by omega,fun e=>by
    rcases hlt with hlt|⟨rfl,hlt⟩
    ·omega
    ·exact(he e).trans hlt.symm⟩
 |oq n k sz i o u hu hn=>
  obtain⟨k',v,hn,hk,he⟩:=hn
  rcases hN _ _ _ hn with h|⟨_,k'',v',h,hlt⟩|⟨us,us',k'',rfl,h,hlt⟩
  ·exact .oq n k sz i o u hu ⟨k',v,h,hk,he⟩
  ·exact .oq n k sz i o u hu ⟨k'',v',h,by omega,fun e=>by omega⟩
  ·exact .oq n k sz i o u hu ⟨k'',_,h,by omega,fun e=>by
    rcases hlt with hlt|⟨rfl,hlt⟩
    ·omega
    ·obtain⟨b,l,c,e',e''⟩:=he e
     exact⟨b,l,c,(show hdv (.agg us')=hdv (.agg us) from hlt).trans e',e''⟩⟩
 |vw n k sz lo hi u hu hn=>
  obtain⟨k',v,hn,hk,he⟩:=hn
  rcases hN _ _ _ hn with h|⟨_,k'',v',h,hlt⟩|⟨us,us',k'',rfl,h,hlt⟩
  ·exact .vw n k sz lo hi u hu ⟨k',v,h,hk,he⟩
  ·exact .vw n k sz lo hi u hu ⟨k'',v',h,by omega,fun e=>by omega⟩
  ·exact .vw n k sz lo hi u hu ⟨k'',_,h,by omega,fun e=>by
    rcases hlt with hlt|⟨rfl,hlt⟩
    ·omega
    ·obtain⟨A,l,c,A',e',e''⟩:=he e
     exact⟨A,l,c,A',(show hdv (.agg us')=hdv (.agg us) from hlt).trans e',e''⟩⟩
 |ag cs us hl _ ih=>exact .ag cs us hl ih
 |tu cs us hl _ ih=>exact .tu cs us hl ih
 |fn f n cs us vs hn hl _ ih=>exact .fn f n cs us vs hn hl ih
theorem RelL.mono {N N':Names} {S S':Sets} {w w':World} (hN:NLe N N') (hS:∀f g,S f g→S' f g) (hw:∀f g,S f g→w'.heap[g]?=w.heap[g]?) {v:List V} {u:List Value} (h:RelL N S w v u):RelL N' S' w' v u:=
 ⟨h.1,fun i v hv=>(h.2 i v hv).mono hN hS hw⟩
theorem Sat.def_ {B:Fr} {w0:World} {N:Names} {S:Sets} {t:List V} {m:List (Option Bk)} {a:Act} {w:World} (h:Sat B w0 N S t m a w) {k x v} (hN:N k=some (x,v)):∃b,m[k]?=some (some b):=by
 by_cases hc:∃b,m[k]?=some (some b)
 ·exact hc
 ·have:=h.non k (fun b hb=>hc ⟨b,hb⟩)
  rw[this] at hN;cases hN
theorem getD_toList (us:Array Value) (i:Nat):us.toList.getD i undef=us.getD i undef:=by
 simp[List.getD,Array.getD_eq_getD_getElem?]
theorem RelV.ofConst {N:Names} {S:Sets} {w:World} (v:Value):RelV N S w (V.ofConst v) v:=by
 unfold V.ofConst
 split
 ·rename_i cs
  refine .ag _ cs (by simp) fun i v hv=>?_
  simp only[List.getElem?_map,Option.map_eq_some_iff] at hv
  obtain⟨u,hu,rfl⟩:=hv
  have:cs.getD i undef=u:=by rw[Array.getElem?_toList] at hu;simp[Array.getD_eq_getD_getElem?,hu]
  rw[this];exact .cv u
 ·exact .kb _
 ·exact .cv _
section
variable {B:Fr} {w0:World} {N:Names} {S:Sets} {t:List V} {m:List (Option Bk)} {a:Act} {w:World}
theorem Sat.ev (h:Sat B w0 N S t m a w) (x:Operand):RelV N S w (ev t x) (a.eval x):=by
 cases x with
 |tmp i=>
  simp only[Go.Proofs.YtdccglkagfdooaaGreatDoor.ev,Act.eval,List.getD_eq_getElem?_getD]
  cases hi:t[i]? with
  |none=>exact .un _
  |some v=>
   have:=h.tmps.2 i v hi
   rw[getD_toList] at this
   simpa using this
 |const v=>exact .ofConst v
 |global g=>exact .cv _
 |func f=>exact .cv _
theorem RelV.nf {v:V} {u:Value} (h:RelV N S w v u):RelV N S w v.nf u:=by
 cases h<;>first|exact .cv _|skip
 all_goals(simp only[V.nf];constructor<;>assumption)
theorem Sat.evN (h:Sat B w0 N S t m a w) (x:Operand):RelV N S w (Go.Proofs.YtdccglkagfdooaaGreatDoor.evN t x) (a.eval x):=(h.ev x).nf
theorem RelV.cells {v:V} {u:Value} (h:RelV N S w v u) (hv:v≠ .un):v.cells.length=u.cells.size∧∀i c,v.cells[i]?=some c→RelV N S w c (u.cells.getD i undef):=by
 have one:∀{v:V} {u:Value},RelV N S w v u→u.cells= #[u]→v.cells=[v]→v.cells.length=u.cells.size∧∀i c,v.cells[i]?=some c→RelV N S w c (u.cells.getD i undef):=by
  intro v u h h1 h2
  rw[h1,h2]
  refine⟨rfl,fun i c hc=>?_⟩
  cases i with
  |zero=>simp at hc;subst hc;simpa using h
  |succ i=>simp at hc
 cases h with
 |un=>exact absurd rfl hv
 |cv v=>
  refine⟨by simp[V.cells],fun i c hc=>?_⟩
  simp only[V.cells,List.getElem?_map,Option.map_eq_some_iff] at hc
  obtain⟨u',hu,rfl⟩:=hc
  have e:(Value.cells u).getD i undef=u':=by rw[Array.getElem?_toList] at hu;simp[Array.getD_eq_getD_getElem?,hu]
  rw[e];exact .cv _
 |kb b=>exact one (.kb b) rfl rfl
 |sl f sz xs u h=>exact one (.sl f sz xs _ h) (by cases h<;>rfl) rfl
 |el f cells o b off hS u' hc=>exact one (.el f cells o b off hS u' hc) rfl rfl
 |bx n o b hn=>exact one (.bx n o b hn) rfl rfl
 |ow n k u hu hn=>exact one (.ow n k u hu hn) (by cases u<;>simp_all [Value.oneCell',Value.cells]) rfl
 |oq n k sz i o u hu hn=>exact one (.oq n k sz i o u hu hn) (by cases u<;>simp_all [isPtr,Value.cells]) rfl
 |vw n k sz lo hi u hu hn=>exact one (.vw n k sz lo hi u hu hn) (by cases u<;>simp_all [Value.oneCell',Value.cells]) rfl
 |ag cs us hl h=>exact⟨hl,h⟩
 |tu cs us hl h=>exact one (.tu cs us hl h) rfl rfl
 |fn f n cs us vs hn hl h=>exact one (.fn f n cs us vs hn hl h) rfl rfl
 |ic t n b hn=>exact one (.ic t n b hn) rfl rfl
theorem isPtr_one {u:Value} (h:isPtr u=true):u.oneCell'=true:=by
 cases u<;>simp_all [isPtr,Value.oneCell']
theorem RelV.one {v:V} {u:Value} (h:RelV N S w v u) (h1:v.one=true):u.oneCell'=true:=by
 cases h<;>first|(simp[V.one] at h1;done)|rfl|assumption|(exact isPtr_one (by assumption))|(simpa[V.one] using h1)|skip
 rename_i h;exact h.one
theorem allOne_spec {l:List V} (h:allOne l=true):∀(i:Nat) (v:V),l[i]?=some v→v.one=true:=by
 induction l with
 |nil=>intro i v hv;simp at hv
 |cons x l ih=>
  simp only[allOne,Bool.and_eq_true] at h
  intro i v hv
  cases i with
  |zero=>simp at hv;subst hv;exact h.1
  |succ i=>exact ih h.2 i v (by simpa using hv)
theorem RelV.ofD {f:Bool} {d:D} {u:Value} (h:RelD (S f) w d u):RelV N S w (d.v f) u:=by
 cases d with
 |cv v=>cases h;exact .cv _
 |sl sz xs=>exact .sl f sz xs u h
theorem RelD.ofV {v:V} {d:D} {f g:Bool} {u:Value} (hTF:∀b,S true b→S false b) (h:RelV N S w v u) (hd:v.d=some (d,f)) (hg:g=true→f=true):RelD (S g) w d u:=by
 cases h<;>simp only[V.d] at hd<;>try(cases hd;done)
 ·split at hd
  ·cases hd;exact .cv _ (by assumption)
  ·cases hd
 ·rename_i f' sz xs h
  cases hd
  cases f<;>cases g<;>first|exact h|exact absurd (hg rfl) (by simp)|exact h.mono hTF fun _ _=>rfl
theorem toDs_spec {l:List V} {ds:List D} {f:Bool} (h:toDs l=some (ds,f)):ds.length=l.length∧∀(i:Nat) (d:D),ds[i]?=some d→∃(v:V) (g:Bool),l[i]?=some v∧v.d=some (d,g)∧(f=true→g=true):=by
 induction l generalizing ds f with
 |nil=>simp[toDs] at h;simp[h.1]
 |cons x l ih=>
  simp only[toDs] at h
  split at h
  ·rename_i d f1 ds' f2 h1 h2
   cases h
   obtain⟨e1,e2⟩:=ih h2
   refine⟨by simp[e1],fun i d hd=>?_⟩
   cases i with
   |zero=>simp at hd;subst hd;exact⟨x,f1,by simp,h1,fun e=>by simp at e;exact e.1⟩
   |succ i=>
    obtain⟨v,g,a,b,c⟩:=e2 i d (by simpa using hd)
    exact⟨v,g,by simpa using a,b,fun e=>c (by simp at e;exact e.2)⟩
  ·cases h
theorem forceC_eq (v:Value) (K:Value→Prop):forceC v K=K v:=by unfold forceC;split<;>rfl
theorem k1_eq (v:V) (K:V→Prop):v.k1 K=K v:=by unfold V.k1;split<;>first|rfl|exact forceC_eq _ _
theorem forceL_eq (l:List V) (K:List V→Prop):forceL l K=K l:=by
 induction l generalizing K with
 |nil=>rfl
 |cons v l ih=>simp only[forceL,k1_eq,ih]
theorem k2_eq (v:V) (K:V→Prop):v.k2 K=K v:=by unfold V.k2;split<;>simp[forceL_eq,k1_eq]
theorem forceL2_eq (l:List V) (K:List V→Prop):forceL2 l K=K l:=by
 induction l generalizing K with
 |nil=>rfl
 |cons v l ih=>simp only[forceL2,k2_eq,ih]
theorem k_eq (v:V) (K:V→Prop):v.k K=K v:=by unfold V.k;split<;>simp[forceL_eq,forceL2_eq,k1_eq]
theorem forceD_eq (l:List D) (K:List D→Prop):forceD l K=K l:=by
 induction l generalizing K with
 |nil=>rfl
 |cons v l ih=>
  simp only[forceD,ih]
  unfold D.k1;split<;>simp[forceC_eq]
theorem setK_eq {α:Type} (l:List α) (i:Nat) (v:α) (K:List α→Prop):setK l i v K=K (l.set i v):=by
 induction l generalizing i K with
 |nil=>rfl
 |cons x l ih=>cases i<;>simp[setK,ih]
theorem forceAll_eq (l:List V) (K:List V→Prop):forceAll l K=K l:=by
 induction l generalizing K with
 |nil=>rfl
 |cons v l ih=>simp only[forceAll,k2_eq,ih]
theorem forceM_eq (l:List (Option Bk)) (K:List (Option Bk)→Prop):forceM l K=K l:=by
 induction l generalizing K with
 |nil=>rfl
 |cons v l ih=>
  cases v with
  |none=>simp only[forceM,ih]
  |some b=>cases b<;>simp[forceM,forceL_eq,ih]
end
end Go.Proofs.YtdccglkagfdooaaGreatDoor
namespace Go.Proofs.YtdccglkagfdooaaGreatDoor
open Go.RowKit
def tabN (n:Nat) (T:Tab):Tab:=⟨fun t=>match Nat.blt t n with
 |true=>T t
 |false=>none,T.fm⟩
structure TOk (P:Program) (T:Tab):Prop where
 get:∀t i,T t=some i→∃j,P.info? t=some j∧j.size=i.size∧j.bytes=i.bytes∧(∃z,j.zero=some z∧z.cells.toList=i.zero)∧(∃d,P.underlying t=some d∧kdOf d=i.kd)∧i.ok=true
theorem TOk.of {P:Program} {T:Tab} {n:Nat} (h:TabOk P T n):TOk P (tabN n T):=by
 refine⟨fun t i ht=>?_⟩
 simp only[tabN] at ht
 split at ht
 rotate_left
 ·cases ht
 rename_i hlt
 have hlt':t<n:=by simpa[Nat.blt_eq] using hlt
 have:=congrArg (fun l=>l[t]?) h
 simp only[List.getElem?_map,List.getElem?_range hlt',Option.map_some,ht,Option.bind_some,Option.some.injEq] at this
 cases hi:P.info? t with
 |none=>rw[hi] at this;simp at this
 |some j=>
  rw[hi] at this
  simp only[Option.map_some,Option.some.injEq,Prod.mk.injEq] at this
  obtain⟨h1,h2,h3,h4,h5⟩:=this
  refine⟨j,rfl,h1,h2,?_,?_,h5.symm⟩
  ·simpa using h3
  ·simpa using h4
section
variable {P:Program} {T:Tab} {B:Fr} {w0:World} {N:Names} {S:Sets} {t:List V} {m:List (Option Bk)} {a:Act} {w:World}
theorem add_mk (g o n:Nat):(⟨g,o,none⟩:Addr).add n=⟨g,o+n,none⟩:=by
 unfold Addr.add;split<;>simp_all
theorem Low.refl (B:Nat→Prop) (w:World):Low B w w:=⟨rfl,rfl,rfl,Nat.le_refl _,fun _ _=>rfl⟩
theorem Low.trans {B:Nat→Prop} {a b c:World} (h:Low B a b) (k:Low B b c):Low B a c:=
 ⟨k.os.trans h.os,k.tape.trans h.tape,k.output.trans h.output,Nat.le_trans h.size k.size,fun i hi=>(k.block i hi).trans (h.block i hi)⟩
theorem Low.mono {B B':Nat→Prop} {w w':World} (h:Low B w w') (hB:∀g,B' g→B g):Low B' w w':=⟨h.os,h.tape,h.output,h.size,fun k hk=>h.block k (hB k hk)⟩
theorem Low.drew {B:Nat→Prop} {a w:World} (h:Low B a w):Low B a w.drew:=⟨h.os,h.tape,h.output,h.size,h.block⟩
theorem Low.alloc {B:Nat→Prop} {a w:World} (h:Low B a w) (hB:∀g,B g→g<w.heap.size) (o:Obj):Low B a (w.alloc o):=
 h.trans ⟨rfl,rfl,rfl,by simp,fun k hk=>Below.heap_alloc _ _ _ (hB k hk)⟩
theorem Low.grown {B:Nat→Prop} {a w w':World} {row:Option Nat} (h:Low B a w) (hg:w.grownBy w' row) (hB:∀g,B g→g<w.heap.size) (hr:∀k,row=some k→¬B k):Low B a w':=
 h.trans ⟨hg.os,hg.tape,hg.output,hg.size,fun k hk=>hg.block k (hB k hk) (fun e=>hr k e.symm hk)⟩
theorem Low.of_below {n:Nat} {w w':World} (h:Below n w w'):Low (· <n) w w':=⟨h.os,h.tape,h.output,h.size,h.block⟩
theorem Low.below {n:Nat} {w w':World} (h:Low (· <n) w w'):Below n w w':=⟨h.os,h.tape,h.output,h.size,h.block⟩
theorem More.mono {N':Names} {S':Sets} {w':World} (h:More B w0 N S w) (hsz:w.heap.size≤w'.heap.size) (hr:∀v u,RelV N S w v u→RelV N' S' w' v u) (hb:∀g,B.keep g→g<w.heap.size)
  (hS:∀f g,S' f g→S f g∨w.heap.size≤g∨¬B.keep g):More B w0 N' S' w':=
 ⟨Nat.le_trans h.size hsz,fun p hp=>hr _ _ (h.ghost p hp),fun g hg=>⟨(h.aside g hg).1,fun f hf=>by
  obtain⟨h1,h2⟩:=h.aside g hg
  rcases hS f g hf with h3|h3|h3
  ·exact h2 f h3
  ·have:=hb g h1;omega
  ·exact h3 h1⟩,h.inv⟩
theorem GI.now {w:World} (h:GI B) (hl:Low B.keep B.ref w):ginv w:=ginv_low h.1 h.2 hl.block
theorem Sat.inv (hs:Sat B w0 N S t m a w):ginv w:=hs.more.inv.now hs.low
theorem Sat.size (hs:Sat B w0 N S t m a w):w0.heap.size≤w.heap.size:=hs.more.size
theorem ownsRow_mono {w w':World} {E sz n:Nat} {v:Value} {vs:List Value} (h:w.ownsRow 0 E sz v n vs) (hb:∀g,At v g→w'.heap[g]?=w.heap[g]?):w'.ownsRow 0 E sz v n vs:=by
 refine⟨h.1,?_⟩
 rcases h.2 with h|⟨g,cap,cur,e1,e2,e3,e4⟩
 ·exact .inl h
 ·exact .inr ⟨g,cap,cur,e1,e2,(hb g (by rw[e1];rfl)).trans e3,e4⟩
theorem Holds.mono {H:Nat} {N':Names} {S':Sets} {w':World} {n:Nat} {b:Bk} (hNn:N' n=N n) (hN:NLe N N') (hS:∀f g,S f g→S' f g) (hw:∀f g,S f g→w'.heap[g]?=w.heap[g]?)
  (hb:∀x v g,N n=some (x,v)→At v g→w'.heap[g]?=w.heap[g]?) (h:Holds H N S w n b):Holds H N' S' w' n b:=by
 cases b with
 |box cs=>
  obtain⟨g,ty,us,h1,h2,h3,h4⟩:=h
  exact⟨g,ty,us,hNn.trans h1,(hb _ _ g h1 rfl).trans h2,h3,fun i v hv=>(h4 i v hv).mono hN hS hw⟩
 |row k E sz f xs=>
  obtain⟨v,us,h1,h2,h3,h4,h5,h6⟩:=h
  refine⟨v,us,hNn.trans h1,?_,h3,h4,fun i j d hd=>?_,h6⟩
  ·refine⟨h2.1,?_⟩
   rcases h2.2 with h|⟨g,cap,cur,e1,e2,e3,e4⟩
   ·exact .inl h
   ·exact .inr ⟨g,cap,cur,e1,e2,(hb _ _ g h1 (by rw[e1];rfl)).trans e3,e4⟩
  ·obtain⟨u,hu,hr⟩:=h5 i j d hd
   exact⟨u,hu,hr.mono (hS _) (hw _)⟩
 |fz k E bs=>
  obtain⟨g,cap,us,fr,h1,h2,h3⟩:=h
  exact⟨g,cap,us,fr,hNn.trans h1,(hb _ _ g h1 rfl).trans h2,h3⟩
 |asr k A outs=>
  obtain⟨v,us,h1,h2,h3⟩:=h
  exact⟨v,us,hNn.trans h1,h2.mono hN hS hw,A.mono (hS false) (hw false) (fun g hg=>hb _ _ g h1 hg) h3⟩
theorem Sat.set (hs:Sat B w0 N S t m a w) {w':World} {d k:Nat} {v:Value} {b:Bk} (hd:d<m.length)
  (hle:∀k0 v0,N d=some (k0,v0)→(k0=k∧v0=v)∨((∃A l c,v0= .slice A l c)∧k0<k)∨(∃us us',v0= .agg us∧v= .agg us'∧(k0<k∨(k0=k∧us'.getD 0 undef=us.getD 0 undef))))
  (low:Low B.keep B.ref w') (hsz:w.heap.size≤w'.heap.size)
  (hkeep:∀g,g<w.heap.size→(∀x v0,N d=some (x,v0)→¬At v0 g)→w'.heap[g]?=w.heap[g]?)
  (hat:∀g,At v g→g<w'.heap.size∧(w.heap.size≤g∨∃x v0,N d=some (x,v0)∧At v0 g))
  (hb:∀N':Names,N' d=some (k,v)→(∀v u,RelV N S w v u→RelV N' S w' v u)→(∀f d u,RelD (S f) w d u→RelD (S f) w' d u)→Holds w0.heap.size N' S w' d b):
  ∃N':Names,N' d=some (k,v)∧(∀v u,RelV N S w v u→RelV N' S w' v u)∧Sat B w0 N' S t (m.set d (some b)) a w':=by
 let N':Names:=fun n=>if n=d then some (k,v) else N n
 have hNd:N' d=some (k,v):=by simp[N']
 have hNo:∀n,n≠d→N' n=N n:=fun n hn=>by simp[N',hn]
 have hN:NLe N N':=by
  intro n k0 v0 h0
  by_cases hn:n=d
  ·subst hn
   rcases hle k0 v0 h0 with⟨rfl,rfl⟩|⟨hsl,hlt⟩|⟨us,us',h1,rfl,h2⟩
   ·exact .inl hNd
   ·exact .inr (.inl ⟨hsl,k,v,hNd,hlt⟩)
   ·exact .inr (.inr ⟨us,us',k,h1,hNd,h2⟩)
  ·exact .inl ((hNo n hn).trans h0)
 have hw:∀f g,S f g→w'.heap[g]?=w.heap[g]?:=fun f g hg=>hkeep g (hs.data f g hg).1 fun x v0 h0=>(hs.data f g hg).2 d x v0 h0
 have hrel:∀v u,RelV N S w v u→RelV N' S w' v u:=fun v u h=>h.mono hN (fun _ _ h=>h) hw
 refine⟨N',hNd,hrel,?_⟩
 refine⟨low,hs.nodef,hs.tmps.mono hN (fun _ _ h=>h) hw,?_,?_,?_,?_,hs.fresh,?_,fun g hg=>Nat.lt_of_lt_of_le (hs.base g hg) hsz,hs.old,fun n g hn=>⟨(hs.lent n g hn).1,(hs.lent n g hn).2.1,hN.ptr (hs.lent n g hn).2.2⟩,hs.more.mono hsz hrel hs.base fun _ _ h=> .inl h,fun n og hn=>?_⟩
 rotate_right
 ·obtain⟨h1,x,v1,h2,h3⟩:=hs.stay n og hn
  refine⟨h1,?_⟩
  by_cases hnd:n=d
  ·subst hnd
   refine⟨k,v,hNd,?_⟩
   rcases h3 with⟨us,rfl⟩|h3
   ·rcases hle _ _ h2 with⟨_,rfl⟩|⟨⟨A,l,c,h4⟩,_⟩|⟨_,us',_,rfl,_⟩
    ·exact .inl ⟨_,rfl⟩
    ·cases h4
    ·exact .inl ⟨_,rfl⟩
   ·refine .inr fun g hg=>?_
    rcases(hat g hg).2 with h4|⟨x0,v0,h4,h5⟩
    ·exact .inr (Nat.le_trans hs.size h4)
    ·rw[h2] at h4;cases h4;exact h3 g h5
  ·exact⟨x,v1,(hNo n hnd).trans h2,h3⟩
 ·intro j b' hj
  by_cases hjd:j=d
  ·subst hjd
   rw[List.getElem?_set_self hd] at hj
   cases hj
   exact hb N' hNd hrel fun f d u h=>h.mono (fun _ h=>h) (hw f)
  ·rw[List.getElem?_set_ne (Ne.symm hjd)] at hj
   refine(hs.blk j b' hj).mono (hNo j hjd) hN (fun _ _ h=>h) hw fun x v1 g h1 h2=>hkeep g (hs.own j x v1 g h1 h2).2 fun x' v0 h0 h3=>hjd (hs.apart j d x x' v1 v0 g h1 h0 h2 h3)
 ·intro j hj
  by_cases hjd:j=d
  ·subst hjd;exact absurd (List.getElem?_set_self hd) (hj b)
  ·rw[hNo j hjd]
   exact hs.non j fun b' hb'=>hj b' (by rw[List.getElem?_set_ne (Ne.symm hjd)];exact hb')
 ·have key:∀j x u g,j≠d→N j=some (x,u)→At u g→At v g→False:=by
   intro j x u g hjd h1 h2 h3
   obtain⟨_,h4⟩:=hat g h3
   have:=(hs.own j x u g h1 h2).2
   rcases h4 with h4|⟨x0,v0,h0,h5⟩
   ·omega
   ·exact hjd (hs.apart j d x x0 u v0 g h1 h0 h2 h5)
  intro j l x y u u' g h1 h2 h3 h4
  by_cases hjd:j=d<;>by_cases hld:l=d
  ·rw[hjd,hld]
  ·subst hjd
   rw[hNd] at h1;cases h1
   rw[hNo l hld] at h2
   exact(key l y u' g hld h2 h4 h3).elim
  ·subst hld
   rw[hNd] at h2;cases h2
   rw[hNo j hjd] at h1
   exact(key j x u g hjd h1 h3 h4).elim
  ·rw[hNo j hjd] at h1;rw[hNo l hld] at h2
   exact hs.apart j l x y u u' g h1 h2 h3 h4
 ·intro f g hg
  refine⟨Nat.lt_of_lt_of_le (hs.data f g hg).1 hsz,fun j x v1 h1 h2=>?_⟩
  by_cases hjd:j=d
  ·subst hjd
   rw[hNd] at h1;cases h1
   obtain⟨_,h4⟩:=hat g h2
   rcases h4 with h4|⟨x0,v0,h0,h5⟩
   ·have:=(hs.data f g hg).1;omega
   ·exact(hs.data f g hg).2 j x0 v0 h0 h5
  ·rw[hNo j hjd] at h1
   exact(hs.data f g hg).2 j x v1 h1 h2
 ·intro j x v1 g h1 h2
  by_cases hjd:j=d
  ·subst hjd
   rw[hNd] at h1;cases h1
   obtain⟨h3,h4⟩:=hat g h2
   refine⟨fun hB=>?_,h3⟩
   rcases h4 with h4|⟨x0,v0,h0,h5⟩
   ·have:=hs.base g hB;omega
   ·exact(hs.own j x0 v0 g h0 h5).1 hB
  ·rw[hNo j hjd] at h1
   exact⟨(hs.own j x v1 g h1 h2).1,Nat.lt_of_lt_of_le (hs.own j x v1 g h1 h2).2 hsz⟩
theorem Sat.as_of (hs:Sat B w0 N S t m a w) {n x:Nat} {us:Array Value} {b:Bk} (hb:m[n]?=some (some b)) (hn:N n=some (x,.agg us)):∃k A o,b= .asr k A o:=by
 have h:=hs.blk n b hb
 cases b with
 |box cs bt=>obtain⟨g,ty,us',h1,_⟩:=h;rw[hn] at h1;cases h1
 |row k E sz f xs=>
  obtain⟨v,us',h1,h2,_⟩:=h
  rw[hn] at h1;cases h1
  obtain⟨A,c,h3⟩:=own_parts h2
  cases h3
 |fz k E bs=>obtain⟨g,cap,us',fr,h1,_⟩:=h;rw[hn] at h1;cases h1
 |asr k A o=>exact⟨k,A,o,rfl⟩
theorem lt_of_get {α:Type} {l:List α} {i:Nat} {x:α} (h:l[i]?=some x):i<l.length:=by
 rcases Nat.lt_or_ge i l.length with h'|h'
 ·exact h'
 ·rw[List.getElem?_eq_none h'] at h;cases h
theorem at_of1 {v:Value} {x g:Nat} (h:at1 v=some x) (hg:At v g):g=x:=by
 unfold At at hg
 split at hg
 ·cases h
 ·rw[h] at hg;exact(Option.some.inj hg).symm
theorem Sat.alloc (hs:Sat B w0 N S t m a w) {d:Nat} {v:Value} {b:Bk} {us:Array Value} {ty:TypeId} (hd:m[d]?=some none) (hv:at1 v=some w.heap.size)
  (hb:∀N':Names,N' d=some (0,v)→(∀v u,RelV N S w v u→RelV N' S (w.alloc (.cells us ty)) v u)→(∀f d u,RelD (S f) w d u→RelD (S f) (w.alloc (.cells us ty)) d u)→Holds w0.heap.size N' S (w.alloc (.cells us ty)) d b):
  ∃N':Names,N' d=some (0,v)∧(∀v u,RelV N S w v u→RelV N' S (w.alloc (.cells us ty)) v u)∧Sat B w0 N' S t (m.set d (some b)) a (w.alloc (.cells us ty)):=by
 have hnone:N d=none:=hs.non d fun b' h=>by rw[hd] at h;cases h
 refine hs.set (lt_of_get hd) (fun k0 v0 h=>by rw[hnone] at h;cases h) (hs.low.alloc hs.base _) (by simp) (fun g hg _=>Below.heap_alloc _ _ _ hg) (fun g hg=>?_) hb
 obtain rfl:=at_of1 hv hg
 exact⟨by simp,.inl (Nat.le_refl _)⟩
end
end Go.Proofs.YtdccglkagfdooaaGreatDoor
namespace Go.Proofs.YtdccglkagfdooaaGreatDoor
open Go.RowKit
section
variable {P:Program} {T:Tab} {B:Fr} {w0:World} {N:Names} {S:Sets} {t:List V} {m:List (Option Bk)} {a:Act} {w:World}
theorem row_hdv (hs:Sat B w0 N S t m a w) {n k k' E sz:Nat} {f:Bool} {xs:List (List D)} {v:Value} (hm:m[n]?=some (some (.row k E sz f xs))) (hn:N n=some (k',v)):hdv v=v∧k=k'∧∃A c,v= .slice A xs.length c:=by
 obtain⟨v',us,h1,h2,_⟩:=hs.blk n _ hm
 rw[hn] at h1;cases h1
 obtain⟨A,c,rfl⟩:=own_parts h2
 exact⟨rfl,rfl,A,c,rfl⟩
end
end Go.Proofs.YtdccglkagfdooaaGreatDoor
namespace Go.Proofs.YtdccglkagfdooaaGreatDoor
open Go.RowKit
section
variable {P:Program} {T:Tab} {B:Fr} {w0:World} {N:Names} {S:Sets} {t:List V} {m:List (Option Bk)} {a:Act} {w:World}
def Post (B:Fr) (w0:World) (t:List V) (a:Act) (K:V→List (Option Bk)→Prop) (u:Value) (w':World):Prop:=
 ∃N' S' v m',Sat B w0 N' S' t m' a w'∧RelV N' S' w' v u∧K v m'
theorem opOk_val {o:Oper} {u:Value} {w':World} {R:Value→World→Prop} (h:(execOp a.eval o).run P w= .ok (.value u) w') (hR:R u w'):OpOk P o a w R:=fun Q=>by
 unfold Oper.wp;rw[h];exact⟨u,rfl,hR⟩
theorem opOk_skip {o:Oper} {w':World} {R:Value→World→Prop} (h:(execOp a.eval o).run P w= .ok .skip w') (hR:R undef w'):OpOk P o a w R:=fun Q=>by
 unfold Oper.wp;rw[h];exact⟨undef,rfl,hR⟩
theorem opOk_enter {o:Oper} {f:FuncId} {args:Array Value} {R:Value→World→Prop} (h:(execOp a.eval o).run P w= .ok (.enter f args) w)
  (hc:Calls P f args w fun e w'=>∃v,e= .returned v∧R v w'):OpOk P o a w R:=fun Q=>by
 unfold Oper.wp;rw[h]
 exact hc.mono fun e w' ⟨v,he,hr⟩=>by subst he;exact⟨v,rfl,hr⟩
theorem Post.same (hs:Sat B w0 N S t m a w) {K:V→List (Option Bk)→Prop} {v:V} {u:Value} (hr:RelV N S w v u) (h:K v m):Post B w0 t a K u w:=
 ⟨N,S,v,m,hs,hr,h⟩
theorem run_v {s:Sem Value} {u:Value} {w':World} (h:s.run P w= .ok u w'):(do pure (Next.value (←s)):Sem Next).run P w= .ok (.value u) w':=by
 simp[h]
theorem run_u {s:Sem Unit} {w':World} (h:s.run P w= .ok () w'):(do s;pure Next.skip:Sem Next).run P w= .ok .skip w':=by
 simp[h]
theorem TOk.size (hT:TOk P T) {ty:Nat} {i:TI} (ht:T ty=some i) (w:World):(sizeOf ty).run P w= .ok i.size w:=by
 obtain⟨j,hj,h1,_⟩:=hT.get ty i ht
 simp[sizeOf,typeInfo,hj,h1]
theorem TOk.zero (hT:TOk P T) {ty:Nat} {i:TI} (ht:T ty=some i):∃z:Value,z.cells.toList=i.zero∧∀w,(zeroValue ty).run P w= .ok z w:=by
 obtain⟨j,hj,_,_,⟨z,hz,hc⟩,_⟩:=hT.get ty i ht
 exact⟨z,hc,fun w=>by simp[zeroValue,typeInfo,hj,hz]⟩
theorem TOk.und (hT:TOk P T) {ty:Nat} {i:TI} (ht:T ty=some i):∃d,P.underlying ty=some d∧kdOf d=i.kd∧∀w,(underlying ty).run P w= .ok d w:=by
 obtain⟨j,hj,_,_,_,⟨d,hd,hk⟩,_⟩:=hT.get ty i ht
 exact⟨d,hd,hk,fun w=>by simp[underlying,hd]⟩
theorem TOk.ok (hT:TOk P T) {ty:Nat} {i:TI} (ht:T ty=some i):(i.agg=match i.kd with| .struct _| .array _ _=>true|_=>false)∧i.zero.length=i.size∧∀c∈i.zero,c.oneCell'=true:=by
 obtain⟨j,hj,_,_,_,_,h⟩:=hT.get ty i ht
 simp only[TI.ok,Bool.and_eq_true,beq_iff_eq,List.all_eq_true] at h
 exact⟨h.1.1,h.1.2,h.2⟩
theorem TOk.agg (hT:TOk P T) {ty:Nat} {i:TI} (ht:T ty=some i) (w:World):(isAgg ty).run P w= .ok i.agg w:=by
 obtain⟨d,hd,hk,hr⟩:=hT.und ht
 have hag:=(hT.ok ht).1
 rw[←hk] at hag
 rw[hag]
 simp only[isAgg,Sem.run_bind,hr,Result.andThen_ok]
 cases d<;>rfl
theorem TOk.kd_int (hT:TOk P T) {ty:Nat} {i:TI} {k:IntKind} (ht:T ty=some i) (hk:i.kd= .int k):P.underlying ty=some (.int k):=by
 obtain⟨d,hd,h,_⟩:=hT.und ht
 rw[hk] at h;cases d<;>simp_all [kdOf]
theorem TOk.kd_bool (hT:TOk P T) {ty:Nat} {i:TI} (ht:T ty=some i) (hk:i.kd= .bool):P.underlying ty=some .bool:=by
 obtain⟨d,hd,h,_⟩:=hT.und ht
 rw[hk] at h;cases d<;>simp_all [kdOf]
theorem TOk.kd_string (hT:TOk P T) {ty:Nat} {i:TI} (ht:T ty=some i) (hk:i.kd= .string):P.underlying ty=some .string:=by
 obtain⟨d,hd,h,_⟩:=hT.und ht
 rw[hk] at h;cases d<;>simp_all [kdOf]
theorem TOk.kd_slice (hT:TOk P T) {ty e:Nat} {i:TI} (ht:T ty=some i) (hk:i.kd= .slice e):P.underlying ty=some (.slice e):=by
 obtain⟨d,hd,h,_⟩:=hT.und ht
 rw[hk] at h;cases d<;>simp_all [kdOf]
theorem TOk.kd_ptr (hT:TOk P T) {ty e:Nat} {i:TI} (ht:T ty=some i) (hk:i.kd= .ptr e):P.underlying ty=some (.pointer e):=by
 obtain⟨d,hd,h,_⟩:=hT.und ht
 rw[hk] at h;cases d<;>simp_all [kdOf]
theorem TOk.kd_array (hT:TOk P T) {ty n e:Nat} {i:TI} (ht:T ty=some i) (hk:i.kd= .array n e):P.underlying ty=some (.array n e):=by
 obtain⟨d,hd,h,_⟩:=hT.und ht
 rw[hk] at h;cases d<;>simp_all [kdOf]
theorem TOk.kd_map (hT:TOk P T) {ty:Nat} {i:TI} (ht:T ty=some i) (hk:i.kd= .map):∃k e,P.underlying ty=some (.map k e):=by
 obtain⟨d,hd,h,_⟩:=hT.und ht
 rw[hk] at h;cases d<;>simp_all [kdOf]
theorem TOk.kd_struct (hT:TOk P T) {ty:Nat} {i:TI} {fs:List (Nat×Nat)} (ht:T ty=some i) (hk:i.kd= .struct fs):∃gs,P.underlying ty=some (.struct gs)∧gs.toList.map (fun f=>(f.offset,f.type))=fs:=by
 obtain⟨d,hd,h,_⟩:=hT.und ht
 rw[hk] at h;cases d<;>simp_all [kdOf]
theorem loadK_sound (hT:TOk P T) {ty:Nat} {i:TI} (ht:T ty=some i) {cs:List V} {off g p:Nat} (hc:∀j v,cs[j]?=some v→∃u,w.cell? ⟨g,p+j,none⟩=some u∧RelV N S w v u)
  {K:V→Prop} (h:loadK i cs off K):∃u v,(loadVar ty ⟨g,p+off,none⟩).run P w= .ok u w∧RelV N S w v u∧K v:=by
 unfold loadK at h
 split at h
 ·rename_i hag
  split at h
  ·rename_i hle
   rw[k_eq] at h
   let us:List Value:=(List.range i.size).map fun j=>(w.cell? ⟨g,p+off+j,none⟩).getD undef
   have hcell:∀j,j<i.size→∃v u,cs[off+j]?=some v∧w.cell? ⟨g,p+off+j,none⟩=some u∧RelV N S w v u:=by
    intro j hj
    have hlt:off+j<cs.length:=by omega
    obtain⟨u,h1,h2⟩:=hc (off+j) _ (List.getElem?_eq_getElem hlt)
    exact⟨_,u,List.getElem?_eq_getElem hlt,by rw[Nat.add_assoc];exact h1,h2⟩
   have hus:∀j v,us[j]?=some v→w.cell? ((⟨g,p+off,none⟩:Addr).add j)=some v:=by
    intro j v hv
    have hj:j<i.size:=by have:=lt_of_get hv;simpa[us] using this
    obtain⟨_,u,_,h1,_⟩:=hcell j hj
    have:us[j]?=some u:=by simp[us,hj,h1]
    rw[this] at hv;cases hv
    rw[add_mk];exact h1
   have hrun:=run_loadCells_list (P:=P) w ⟨g,p+off,none⟩ us hus
   have hl:us.length=i.size:=by simp[us]
   rw[hl] at hrun
   refine⟨.agg us.toArray,_,?_,?_,h⟩
   ·simp[loadVar,hT.agg ht,hag,hT.size ht,hrun]
   ·refine .ag _ _ (by simp[hl];omega) fun j v hv=>?_
    have hj:j<i.size:=by have:=lt_of_get hv;simp at this;omega
    obtain⟨v',u,h0,h1,h2⟩:=hcell j hj
    have e1:v=v':=by
     rw[List.getElem?_take,if_pos hj,List.getElem?_drop,h0] at hv
     cases hv;rfl
    subst e1
    have e2:us.toArray.getD j undef=u:=by simp[Array.getD_eq_getD_getElem?,us,hj,h1]
    rw[e2];exact h2
  ·cases h
 ·rename_i hag
  split at h
  ·rename_i v hv
   rw[k_eq] at h
   obtain⟨u,h1,h2⟩:=hc off v hv
   refine⟨u,v,?_,h2,h⟩
   simp[loadVar,hT.agg ht,hag,h1]
  ·cases h
structure Upd (w w':World) (g:Nat) (us:Array Value) (ty:TypeId):Prop where
 os:w'.os=w.os
 tape:w'.tape=w.tape
 output:w'.output=w.output
 size:w'.heap.size=w.heap.size
 new:w'.heap[g]?=some (.cells us ty (0,0))
 other:∀k,k≠g→w'.heap[k]?=w.heap[k]?
theorem storeCells_run (ns:List Value):∀(w:World) (g off k:Nat) (ty:TypeId) (us:Array Value),w.heap[g]?=some (.cells us ty (0,0))→(∀v∈ns,v.oneCell'=true)→off+k+ns.length≤us.size→
  ∃w' us',(storeCells ⟨g,off,none⟩ ns k).run P w= .ok () w'∧Upd w w' g us' ty∧us'.size=us.size∧
   ∀j,us'.getD j undef=if off+k≤j∧j<off+k+ns.length then ns.getD (j - (off+k)) undef else us.getD j undef:=by
 induction ns with
 |nil=>
  intro w g off k ty us hg _ _
  exact⟨w,us,by simp[storeCells],⟨rfl,rfl,rfl,rfl,hg,fun _ _=>rfl⟩,rfl,fun j=>by rw[if_neg (by simp only[List.length_nil];omega)]⟩
 |cons v ns ih=>
  intro w g off k ty us hg h1 hle
  simp only[List.length_cons] at hle
  have hlt:off+k<us.size:=by omega
  have hcell:w.cell? ((⟨g,off,none⟩:Addr).add k)=some us[off+k]:=by
   rw[add_mk,cell_of_row w g _ us ty _ hg];simp[hlt]
  have hfr:w.frozen? ((⟨g,off,none⟩:Addr).add k)=false:=by
   rw[add_mk];simp[World.frozen?,hg]
  have hst:(store ((⟨g,off,none⟩:Addr).add k) v).run P w= .ok () (w.setCell ((⟨g,off,none⟩:Addr).add k) v):=by
   rw[run_store P w _ v _ (h1 v (by simp)),hcell];simp[hfr]
  have hg1:(w.setCell ((⟨g,off,none⟩:Addr).add k) v).heap[g]?=some (.cells (us.setIfInBounds (off+k) v) ty (0,0)):=by
   rw[add_mk];simp[World.setCell,Array.getElem?_modify,hg]
  obtain⟨w',us',hr,hu,hsz,hval⟩:=ih _ g off (k+1) ty _ hg1 (fun v hv=>h1 v (by simp[hv])) (by simp;omega)
  refine⟨w',us',?_,⟨hu.os,hu.tape,hu.output,?_,hu.new,fun j hj=>?_⟩,by simpa using hsz,fun j=>?_⟩
  ·simp[storeCells,hst,hr]
  ·rw[hu.size];simp[World.setCell]
  ·rw[hu.other j hj,add_mk];exact Below.heap_setCell _ _ _ _ hj
  ·rw[hval j]
   simp only[List.length_cons]
   by_cases hj:off+k=j
   ·subst hj
    rw[if_neg (by omega),if_pos (by omega)]
    simp[Array.getD_eq_getD_getElem?,hlt]
   ·by_cases hj2:off+(k+1)≤j∧j<off+(k+1)+ns.length
    ·rw[if_pos hj2,if_pos (by omega)]
     obtain⟨q,rfl⟩:∃q,j=off+k+1+q:=⟨j - (off+k+1),by omega⟩
     rw[show off+k+1+q - (off+(k+1))=q by omega,show off+k+1+q - (off+k)=q+1 by omega]
     simp
    ·rw[if_neg hj2,if_neg (by omega)]
     simp[Array.getD_eq_getD_getElem?,hj]
theorem fillV_spec:∀(cs:List V) (off:Nat) (us cs':List V),fillV cs off us=some cs'→off+us.length≤cs.length∧cs'.length=cs.length∧
  ∀j,cs'[j]?=if off≤j∧j<off+us.length then us[j - off]? else cs[j]?
 |cs,0,us,cs',h=>by
  unfold fillV at h
  split at h
  ·rename_i hle
   cases h
   refine⟨by omega,by simp;omega,fun j=>?_⟩
   by_cases hj:j<us.length
   ·rw[List.getElem?_append_left hj,if_pos (by omega)];rfl
   ·rw[List.getElem?_append_right (by omega),List.getElem?_drop,if_neg (by omega)]
    congr 1;omega
  ·cases h
 |[],o+1,us,cs',h=>by simp[fillV] at h
 |c::cs,o+1,us,cs',h=>by
  simp only[fillV,Option.map_eq_some_iff] at h
  obtain⟨l,hl,rfl⟩:=h
  obtain⟨h1,h2,h3⟩:=fillV_spec cs o us l hl
  refine⟨by simp;omega,by simp[h2],fun j=>?_⟩
  cases j with
  |zero=>simp
  |succ j=>
   simp only[List.getElem?_cons_succ,h3 j]
   by_cases hj:o≤j∧j<o+us.length
   ·rw[if_pos hj,if_pos (by omega)];congr 1;omega
   ·rw[if_neg hj,if_neg (by omega)]
theorem getD_of_get {us:Array Value} {i:Nat} {u:Value} (h:us.toList[i]?=some u):us.getD i undef=u:=by
 rw[Array.getElem?_toList] at h;simp[Array.getD_eq_getD_getElem?,h]
theorem get_of_lt {us:Array Value} {i:Nat} (h:i<us.size):us.toList[i]?=some (us.getD i undef):=by
 simp[Array.getD_eq_getD_getElem?,h]
theorem Upd.low {us:Array Value} {g:Nat} {ty:TypeId} {w':World} (h:Upd w w' g us ty) (hb:Low B.keep B.ref w) (hg:¬B.keep g):Low B.keep B.ref w':=
 hb.trans ⟨h.os,h.tape,h.output,by rw[h.size];exact Nat.le_refl _,fun k hk=>h.other k (fun e=>hg (e▸hk))⟩
theorem Oper.wp_mono' {o:Oper} {next next':Act→World→Prop} {Q:Exit→Act→World→Prop} (h:o.wp P a w next Q) (hm:∀a w,next a w→next' a w):o.wp P a w next' Q:=by
 unfold Oper.wp at*
 generalize (execOp a.eval o).run P w=r at h⊢
 cases r with
 |ok x w'=>
  cases x<;>simp only[Oper.upon] at h⊢ <;>first|exact hm _ _ h|exact h.elim|skip
  ·refine Calls.mono h fun e w'' he=>?_
   cases e with
   |returned u=>exact hm _ _ he
   |panicked c=>exact he
   |outgrown=>exact he
  ·exact Rows.mono h fun u w'' he=>hm _ _ he
 |halt x w'=>cases x<;>simp only[Oper.upon] at h⊢ <;>exact h
theorem ok_ext (hs:Sat B w0 N S t m a w) {o:Oper} {K:V→List (Option Bk)→Prop} (h:∃v m',OpTr P o (evN t) m v m'∧v.k fun v=>forceM m' fun m'=>K v m'):OpOk P o a w (Post B w0 t a K):=by
 obtain⟨v,m',h1,h2⟩:=h
 rw[k_eq,forceM_eq] at h2
 have:=h1 B w0 N S t a w hs fun x _=>hs.evN x
 intro Q
 refine Oper.wp_mono' (this Q) ?_
 rintro a' w' ⟨u,he,N',S',h3,h4⟩
 exact⟨u,he,N',S',v,m',h3,h4,h2⟩
theorem OpRd.rc {P:Program} {o:Oper} {E:Operand→V} {m:List (Option Bk)} {v:V} (h:OpRd P o E m v):OpRc P o E m v:=fun m2 hu B w0 N S t a w hs hx Q=>by
 refine Oper.wp_mono' (h B w0 N S t m2 a w hs hu hx Q) ?_
 rintro a' w' ⟨u,he,rfl,hr⟩
 exact⟨u,he,N,S,hs,hr⟩
theorem ok_rd (hs:Sat B w0 N S t m a w) {o:Oper} {K:V→List (Option Bk)→Prop} (h:rdK P o (evN t) m K):OpOk P o a w (Post B w0 t a K):=by
 obtain⟨v,h1,h2⟩:=h
 rw[k_eq] at h2
 have:=h1 m (fun _ _ h=>h) B w0 N S t a w hs fun x _=>hs.evN x
 intro Q
 refine Oper.wp_mono' (this Q) ?_
 rintro a' w' ⟨u,he,N',S',h4,h3⟩
 exact⟨u,he,N',S',v,m,h4,h3,h2⟩
end
end Go.Proofs.YtdccglkagfdooaaGreatDoor
