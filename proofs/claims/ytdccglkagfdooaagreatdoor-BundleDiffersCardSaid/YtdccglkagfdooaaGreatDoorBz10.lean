/- Texts joined by pack.py: XSxO XSxP XSxQ -/
import Derived.Test.YtdccglkagfdooaaGreatDoorBz9
namespace Go.Proofs.YtdccglkagfdooaaGreatDoor
open Go.RowKit
section
variable {P:Program} {T:Tab} {B:Fr} {w0:World} {N:Names} {S:Sets} {t t':List V} {m m':List (Option Bk)} {a:Act} {w:World}
theorem old_rel {v:V} {u:Value} (h:RelV (fun _=>none) (fun _ b=>b<w.heap.size) w v u):RelV (fun _=>none) (fun f b=>f=false∧b<w.heap.size) w v.old u:=by
 have one:∀{v:V} {u:Value},RelV (fun _=>none) (fun _ b=>b<w.heap.size) w v u→RelV (fun _=>none) (fun f b=>f=false∧b<w.heap.size) w v.old1 u:=by
  intro v u h
  cases h<;>simp only[V.old1]<;>first|exact .un _|exact .cv _|exact .kb _|skip
  ·rename_i h
   exact .sl _ _ _ _ (h.mono (fun g hg=>⟨rfl,hg⟩) fun _ _=>rfl)
  ·rename_i hS u hc
   exact .el _ _ _ _ _ ⟨rfl,hS⟩ _ fun j d hd=>⟨(hc j d hd).1,(hc j d hd).2.mono (fun g hg=>⟨rfl,hg⟩) fun _ _=>rfl⟩
 unfold V.old
 split
 ·rename_i cs
  cases h with
  |ag _ us hl h=>
   refine .ag _ us (by simpa using hl) fun i v hv=>?_
   rw[List.getElem?_map,Option.map_eq_some_iff] at hv
   obtain⟨v',hv',rfl⟩:=hv
   exact one (h i v' hv')
 ·exact one h
theorem sat_enter {args:List V} {vs:List Value} (hi:ginv w) (h:RelL (fun _=>none) (fun _ b=>b<w.heap.size) w args vs) (n:Nat):
  Sat {keep:=(· <w.heap.size),old:=fun _=>True,lent:=fun _=>none,ref:=w} w (fun _=>none) (fun f b=>f=false∧b<w.heap.size) (args.map V.old++List.replicate (n - args.length) .un) (List.replicate n none) {tmps:=vs.toArray++Array.replicate (n - vs.toArray.size) undef,defers:=[]} w:=by
 refine⟨Low.refl _ _,rfl,⟨by simp[h.1],fun i v hv=>?_⟩,?_,fun _ _=>rfl,?_,?_,?_,?_,fun _ h=>h,fun _ _=> .inr trivial,fun _ _ h=>(by cases h),⟨Nat.le_refl _,fun p h=>(by cases h),fun g h=>h.elim,hi,fun g hg=>ginv_lt hi hg⟩,fun _ _ h=>(by cases h)⟩
 ·rw[List.getElem?_append] at hv
  split at hv
  ·rename_i hlt
   rw[List.getElem?_map,Option.map_eq_some_iff] at hv
   obtain⟨v',hv',rfl⟩:=hv
   have:=old_rel (h.2 i v' hv')
   have hlt':i<vs.length:=by rw[←h.1];exact lt_of_get hv'
   have e:(({tmps:=vs.toArray++Array.replicate (n - vs.toArray.size) undef,defers:=[]}:Act).tmps.toList).getD i undef=vs.getD i undef:=by
    simp only[Array.toList_append,List.getD_eq_getElem?_getD]
    rw[List.getElem?_append_left hlt']
   rw[e];exact this
  ·rw[List.getElem?_replicate] at hv
   split at hv
   ·cases hv;exact .un _
   ·cases hv
 ·intro k b hb
  rw[List.getElem?_replicate] at hb
  split at hb<;>cases hb
 ·intro j k x y u v g h1;cases h1
 ·intro f g hg;exact⟨hg.2,fun k x v h=>by cases h⟩
 ·intro g hg;cases hg.1
 ·intro k x v g h1;cases h1
theorem row_new (hs:Sat B w0 N S t m a w) {n k E sz:Nat} {xs:List (List D)} (hm:m[n]?=some (some (.row k E sz true xs))) {v:Value} {k':Nat} (hn:N n=some (k',v)):∀g,At v g→w0.heap.size≤g:=by
 obtain⟨v',us,h1,h2,h3,h4,h5,h6⟩:=hs.blk n _ hm
 rw[hn] at h1;cases h1
 exact h6 rfl
theorem fin_rel (hs:Sat B w0 N S t m a w) {v:V} {u:Value} (h:RelV N S w v u):RelV (fun _=>none) (fun _ b=>w0.heap.size≤b∧b<w.heap.size) w (v.fin m) u:=by
 have hfr:∀g,S true g→w0.heap.size≤g∧g<w.heap.size:=fun g hg=>⟨(hs.fresh g hg).2,(hs.data _ g hg).1⟩
 have one:∀{v:V} {u:Value},RelV N S w v u→RelV (fun _=>none) (fun _ b=>w0.heap.size≤b∧b<w.heap.size) w (v.fin1 m) u:=by
  intro v u h
  cases h<;>simp only[V.fin1]<;>try exact .un _
  ·exact .cv _
  ·exact .cv _
  ·rename_i f sz xs h
   cases f
   ·exact .un _
   ·exact .sl _ _ _ _ (h.mono hfr fun _ _=>rfl)
  ·rename_i n k hu hn
   obtain⟨k',v,hn,hk,he⟩:=hn
   split
   ·rename_i k2 E sz xs hm
    split
    ·rename_i hkk
     subst hkk
     have hb6:=row_new hs hm hn
     obtain⟨rfl,h1,h2,h3⟩:=row_cells hs hm hn
     rw[(row_hdv hs hm hn).1] at he
     have:=he rfl
     subst this
     rcases h3 with⟨rfl,rfl⟩|⟨g,cap,us,rfl,h4,h5,_,_,h6⟩
     ·exact .sl _ _ _ _ (.nil _ _ _)
     ·refine .sl _ _ _ _ (.sl _ _ g 0 cap (fun i j=>us.getD (i*sz+j) undef) ⟨hb6 g rfl,(hs.own n _ _ g hn rfl).2⟩ h1 h5 (fun i j d hd=>?_) (fun i j d hd=>?_))
      ·obtain⟨h7,_⟩:=h6 i j d hd
       rw[cell_of_row w g _ us E _ h4]
       simp[Array.getD_eq_getD_getElem?,h7]
      ·exact(h6 i j d hd).2.mono hfr fun _ _=>rfl
    ·exact .un _
   ·exact .un _
  ·rename_i n k s lo hi hu hn
   obtain⟨k',v,hn,hk,he⟩:=hn
   split
   ·rename_i k2 E sz xs hm
    split
    ·rename_i hkk
     obtain⟨rfl,rfl⟩:=hkk
     have hb6:=row_new hs hm hn
     obtain⟨rfl,_⟩:=row_cells hs hm hn
     rw[(row_hdv hs hm hn).1] at he
     exact .sl _ _ _ _ (vw_data hs hm hn (he rfl) hfr fun g hg=>⟨hb6 g hg,(hs.own n _ _ g hn hg).2⟩)
    ·exact .un _
   ·exact .un _
 unfold V.fin
 split
 ·rename_i cs
  cases h with
  |ag _ us hl h=>
   refine .ag _ us (by simpa using hl) fun i v hv=>?_
   rw[List.getElem?_map,Option.map_eq_some_iff] at hv
   obtain⟨v',hv',rfl⟩:=hv
   exact one (h i v' hv')
 ·exact one h
def resR (a:Act):ResultVar→Sem Value
 | .tmp t=>pure (a.tmps.getD t undef)
 | .cell a' t=>do loadVar t (←asAddr (a.tmps.getD a' undef))
theorem resV_sound (hT:TOk P T) (hs:Sat B w0 N S t m a w) {r:ResultVar} {v:V} (h:resV T t m r=some v):
  ∃u,(resR a r).run P w= .ok u w∧RelV N S w v u:=by
 cases r with
 |tmp i=>
  have h':t[i]?=some v:=h
  have:=hs.tmps.2 i v h'
  rw[getD_toList] at this
  exact⟨_,rfl,this⟩
 |cell i ty=>
  simp only[resV] at h
  split at h
  rotate_left
  ·cases h
  rename_i ti n off hti hti2
  have hr:=hs.tmps.2 i _ hti2
  rw[getD_toList] at hr
  split at h
  rotate_left
  ·cases h
  rename_i cs bt hm
  simp only[resR]
  generalize a.tmps.getD i undef=z at hr⊢
  cases hr
  rename_i g hn
  obtain⟨ty',us,_,_,_,hc⟩:=box_cells hs hm hn
  have hl:loadK ti cs off (· =v):=by
   unfold loadK
   simp only[k_eq]
   split at h
   ·rename_i hag
    split at h
    ·rename_i hle;cases h;simp[hag,hle]
    ·cases h
   ·rename_i hag
    simp[hag,h]
  obtain⟨u,v',h1,h2,rfl⟩:=loadK_sound hT hti hc hl
  rw[Nat.zero_add] at h1
  exact⟨u,by simp[asAddr,h1],h2⟩
theorem resL_sound (hT:TOk P T) (hs:Sat B w0 N S t m a w):∀(rs:List ResultVar) (tys:List TypeId) {K:List V→Prop},resL T t m rs tys K→
  ∃us vs,(rs.mapM (resR a)).run P w= .ok us w∧RelL (fun _=>none) (fun _ b=>w0.heap.size≤b∧b<w.heap.size) w vs us∧K vs
 |[],_,K,h=>⟨[],[],rfl,⟨rfl,by simp⟩,by simpa[resL] using h⟩
 |r::rs,tys,K,h=>by
  have key:∀{v vf:V} {tys':List TypeId},resV T t m r=some v→(∀u,RelV N S w v u→RelV (fun _=>none) (fun _ b=>w0.heap.size≤b∧b<w.heap.size) w vf u)→(resL T t m rs tys' fun vs=>K (vf::vs))→
    ∃us vs,((r::rs).mapM (resR a)).run P w= .ok us w∧RelL (fun _=>none) (fun _ b=>w0.heap.size≤b∧b<w.heap.size) w vs us∧K vs:=by
   intro v vf tys' hv hf h
   obtain⟨u,h1,h2⟩:=resV_sound hT hs hv
   obtain⟨us,vs,h3,h4,h5⟩:=resL_sound hT hs rs tys' h
   refine⟨u::us,vf::vs,?_,⟨by simp[h4.1],fun i v' hv'=>?_⟩,h5⟩
   ·rw[List.mapM_cons]
    simp only[Sem.run_bind,h1,h3,Sem.run_pure,Result.andThen_ok]
   ·cases i with
    |zero=>simp at hv';subst hv';exact hf u h2
    |succ i=>simpa using h4.2 i v' (by simpa using hv')
  cases tys with
  |nil=>
   simp only[resL] at h
   split at h
   rotate_left
   ·cases h
   rename_i v hv
   rw[k_eq] at h
   exact key hv (fun u hu=>fin_rel hs hu) h
  |cons ty tys=>
   simp only[resL] at h
   split at h
   rotate_left
   ·cases h
   rename_i v hv
   rw[k_eq] at h
   exact key hv (fun u hu=>z_rel _ (fin_rel hs hu)) h
theorem dcalls_of (hT:TOk P T) (hm:P.follows .mixedOrders=true) {f:FuncId} {fn:Func} (hf:P.funcs[f]?=some fn) (hn:(fn.name== "runtime.NumGoroutine")=false) {args:List V} {res:V} (h:Body P T fn args res):DCalls P f args res:=by
 unfold Body at h
 cases hb:fn.body with
 |none=>rw[hb] at h;exact h.elim
 |some c=>
  rw[hb] at h
  refine⟨⟨fn,hf,hn,by rw[hb];rfl⟩,fun w vs hi hvs=>?_⟩
  simp only[enterK,forceAll_eq] at h
  refine calls_of_wp hf hb (Go.wp_mono (awp_sound (B:={keep:=(· <w.heap.size),old:=fun _=>True,lent:=fun _=>none,ref:=w}) (w0:=w) hT hm ⟨by intro p hp;simp at hp,rfl⟩ c _ _ w ⟨_,_,_,_,sat_enter hi hvs fn.ntmps,h⟩) ?_)
  have key:∀(a:Act) (w':World),OkSt {keep:=(· <w.heap.size),old:=fun _=>True,lent:=fun _=>none,ref:=w} w (resK T fn (fun v=>v=res)) a w'→a.defers=[]∧∃v,(results fn a.tmps).run P w'= .ok v w'∧
    ∃v',Ending.returned v= .returned v'∧RelV (fun _=>none) (fun _ b=>w.heap.size≤b∧b<w'.heap.size) w' res v'∧Below w.heap.size w w':=by
   rintro a w' ⟨N,S,t,m,hs,h⟩
   simp only[resK] at h
   obtain⟨us,vs,h1,h2,h3⟩:=resL_sound hT hs _ _ h
   have hrun:∀v,(if h:us.toArray.size=1 then us.toArray[0] else .tuple us.toArray)=v→(results fn a.tmps).run P w'= .ok v w':=by
    intro v hv
    unfold results
    rw[Array.mapM_eq_mapM_toList]
    change Sem.run P (do
     let vs ←List.toArray<$>fn.results.toList.mapM (resR a)
     pure (if h:vs.size=1 then vs[0] else Value.tuple vs)) w'=_
    simp only[Sem.run_bind,Sem.run_map,h1,Result.andThen_ok,Sem.run_pure,hv]
   refine⟨hs.nodef,?_⟩
   split at h3
   ·rename_i v
    subst h3
    obtain⟨u,rfl⟩:∃u,us=[u]:=by
     have:=h2.1
     match us,this with
     |[u],_=>exact⟨u,rfl⟩
    exact⟨u,hrun u rfl,u,rfl,by simpa using h2.2 0 v rfl,hs.low.below⟩
   ·rename_i hne
    subst h3
    have hsz:us.toArray.size≠1:=by
     intro e
     have:us.length=1:=by simpa using e
     have h4:=h2.1
     rw[this] at h4
     match vs,h4 with
     |[v],_=>exact hne v rfl
    refine⟨.tuple us.toArray,hrun _ (by rw[dif_neg hsz]),_,rfl,.tu _ _ (by simpa using h2.1) fun i v hv=>?_,hs.low.below⟩
    have:=h2.2 i v hv
    rw[←getD_toList];simpa using this
  intro e a w' h
  cases e<;>simp only[QK] at h<;>first|exact h.elim|skip
  ·exact key a w' h
  ·obtain⟨N,S,t,m,hs,h⟩:=h;exact h.elim
  ·exact key a w' h
end
end Go.Proofs.YtdccglkagfdooaaGreatDoor
namespace Go.Proofs.YtdccglkagfdooaaGreatDoor
open Go.RowKit
def NamesOf (ns:List Value):Names:=fun n=>(ns[n]?).map fun v=>(0,v)
def blks (ns:List Value) (g:Nat):Prop:=∃v∈ns,At v g
structure MemOk (H:Nat) (S:Sets) (w:World) (ns:List Value) (m:List Bk):Prop where
 len:ns.length=m.length
 blk:∀k b,m[k]?=some b→Holds H (NamesOf ns) S w k b
 apart:∀(j k:Nat) (u v:Value) g,ns[j]?=some u→ns[k]?=some v→At u g→At v g→j=k
 data:∀f g,S f g→g<w.heap.size∧¬blks ns g
 lt:∀g,blks ns g→g<w.heap.size
 inv:ginv w∧∀g,glob g→¬blks ns g
def oldS (So:Nat→Prop):Sets:=fun f g=>f=false∧So g
def newS (So:Nat→Prop) (w w':World) (ns':List Value):Sets:=fun f g=>g<w'.heap.size∧¬blks ns' g∧(w.heap.size≤g∨(f=false∧So g))
def SameHd (v v':Value):Prop:=v'=v∨∃us us',v= .agg us∧v'= .agg us'∧us'.getD 0 undef=us.getD 0 undef
def MCallsG (st:Bool) (P:Program) (f:FuncId) (args:List V) (m:List Bk) (res:V) (m':List Bk):Prop:=
 (∃fn,P.funcs[f]?=some fn∧(fn.name== "runtime.NumGoroutine")=false∧fn.body.isNone=false)∧
 ∀(w:World) (vs ns:List Value) (So:Nat→Prop),MemOk w.heap.size (oldS So) w ns m→RelL (NamesOf ns) (oldS So) w args vs→
  Calls P f vs.toArray w fun e w'=>∃v ns',e= .returned v∧MemOk w.heap.size (newS So w w' ns') w' ns' m'∧RelV (NamesOf ns') (newS So w w' ns') w' res v∧
   Low (fun g=>g<w.heap.size∧¬blks ns g) w w'∧ns.length≤ns'.length∧(∀(k:Nat) (a:Addr),ns[k]?=some (.pointer (some a))→ns'[k]?=some (.pointer (some a)))∧(∀g,blks ns' g→blks ns g∨w.heap.size≤g)∧(st=true→∀(k:Nat) (v:Value),ns[k]?=some v→∃v',ns'[k]?=some v'∧SameHd v v')∧
   (∀(k:Nat) (v v':Value),ns[k]?=some v→ns'[k]?=some v'→(∃us,v'= .agg us)∨∀g,At v' g→At v g∨w.heap.size≤g)
abbrev MCalls:=MCallsG false
def V.sh1 (base:Nat):V→V
 | .bx n o=> .bx (base+n) o
 | .ic t n=> .ic t (base+n)
 | .ow n k=> .ow (base+n) k
 | .oq n k s i o=> .oq (base+n) k s i o
 | .vw n k s lo hi=> .vw (base+n) k s lo hi
 | .cv v=> .cv v
 | .kb b=> .kb b
 | .sl f sz xs=> .sl f sz xs
 | .el f cells o=> .el f cells o
 |_=> .un
def V.sh (base:Nat):V→V
 | .ag cs=> .ag (cs.map (V.sh1 base))
 | .fn f n cs=> .fn f n (cs.map (V.sh1 base))
 |v=>v.sh1 base
def Bk.sh (base:Nat):Bk→Bk
 | .box cs bt=> .box (cs.map (V.sh base)) bt
 | .row k E sz f xs=> .row k E sz f xs
 | .fz k E bs=> .fz k E bs
 | .asr k A outs=> .asr k A (outs.map (V.sh base))
section
variable {P:Program} {T:Tab} {B:Fr} {w0:World} {N:Names} {S:Sets} {t t':List V} {m m':List (Option Bk)} {a:Act} {w:World}
theorem sh_rel {N N':Names} {base:Nat} (hN:∀n,N' (base+n)=N n) {v:V} {u:Value} (h:RelV N S w v u):RelV N' S w (v.sh base) u:=by
 have one:∀{v:V} {u:Value},RelV N S w v u→RelV N' S w (v.sh1 base) u:=by
  intro v u h
  cases h<;>simp only[V.sh1]<;>try exact .un _
  ·exact .cv _
  ·exact .kb _
  ·exact .sl _ _ _ _ (by assumption)
  ·exact .el _ _ _ _ _ (by assumption) _ (by assumption)
  ·rename_i hn;exact .bx _ _ _ (by rw[hN];exact hn)
  ·rename_i hu hn;exact .ow _ _ _ hu (by rw[hN];exact hn)
  ·rename_i hu hn;exact .oq _ _ _ _ _ _ hu (by rw[hN];exact hn)
  ·rename_i hu hn;exact .vw _ _ _ _ _ _ hu (by rw[hN];exact hn)
  ·rename_i hn;exact .ic _ _ _ (by rw[hN];exact hn)
 have list:∀{cs:List V} {i:Nat} {v:V} {us:Array Value},(∀i v,cs[i]?=some v→RelV N S w v (us.getD i undef))→(cs.map (V.sh1 base))[i]?=some v→RelV N' S w v (us.getD i undef):=by
  intro cs i v us h hv
  rw[List.getElem?_map,Option.map_eq_some_iff] at hv
  obtain⟨v',hv',rfl⟩:=hv
  exact one (h i v' hv')
 unfold V.sh
 split
 ·cases h with
  |ag _ us hl h=>exact .ag _ us (by simpa using hl) fun i v hv=>list h hv
 ·cases h with
  |fn _ _ _ us vs hn hl h=>exact .fn _ _ _ us vs hn (by simpa using hl) fun i v hv=>list h hv
 ·exact one h
theorem sh_holds {H:Nat} {N N':Names} {base n:Nat} (hN:∀n,N' (base+n)=N n) {b:Bk} (h:Holds H N S w n b):Holds H N' S w (base+n) (b.sh base):=by
 cases b with
 |box cs=>
  obtain⟨g,ty,us,h1,h2,h3,h4⟩:=h
  refine⟨g,ty,us,(hN n).trans h1,h2,by simpa using h3,fun i v hv=>?_⟩
  rw[List.getElem?_map,Option.map_eq_some_iff] at hv
  obtain⟨v',hv',rfl⟩:=hv
  exact sh_rel hN (h4 i v' hv')
 |row k E sz f xs=>
  obtain⟨v,us,h1,h2⟩:=h
  exact⟨v,us,(hN n).trans h1,h2⟩
 |fz k E bs=>
  obtain⟨g,cap,us,fr,h1,h2⟩:=h
  exact⟨g,cap,us,fr,(hN n).trans h1,h2⟩
 |asr k A outs=>
  obtain⟨fs,us,h1,h2,h3⟩:=h
  refine⟨fs,us,(hN n).trans h1,⟨by simpa using h2.1,fun i v hv=>?_⟩,h3⟩
  rw[List.getElem?_map,Option.map_eq_some_iff] at hv
  obtain⟨v',hv',rfl⟩:=hv
  exact sh_rel hN (h2.2 i v' hv')
def inM (ntmps:Nat) (m:List Bk):List (Option Bk):=List.replicate ntmps none++m.map (fun b=>some (b.sh ntmps))++List.replicate (32 - m.length) none
theorem inM_get {ntmps:Nat} {m:List Bk} {k:Nat} {b:Bk} (h:(inM ntmps m)[k]?=some (some b)):∃n b0,k=ntmps+n∧m[n]?=some b0∧b=b0.sh ntmps:=by
 unfold inM at h
 rw[List.getElem?_append] at h
 split at h
 ·rw[List.getElem?_append] at h
  split at h
  ·rw[List.getElem?_replicate] at h;split at h<;>cases h
  ·rename_i hlt
   rw[List.getElem?_map,Option.map_eq_some_iff] at h
   obtain⟨b0,h1,h2⟩:=h
   cases h2
   simp only[List.length_replicate] at h1 hlt
   exact⟨k - ntmps,b0,by omega,h1,rfl⟩
 ·rw[List.getElem?_replicate] at h;split at h<;>cases h
theorem inM_none {ntmps:Nat} {m:List Bk} {k:Nat} (h:∀b,(inM ntmps m)[k]?≠some (some b)):k<ntmps∨m.length≤k - ntmps:=by
 rcases Nat.lt_or_ge k ntmps with h1|h1
 ·exact .inl h1
 rcases Nat.lt_or_ge (k - ntmps) m.length with h2|h2
 ·refine absurd ?_ (h (m[k - ntmps].sh ntmps))
  unfold inM
  rw[List.getElem?_append_left (by simp;omega),List.getElem?_append_right (by simp;omega),List.getElem?_map,List.length_replicate,List.getElem?_eq_getElem h2]
  rfl
 ·exact .inr h2
def baseN (base:Nat) (ns:List Value):Names:=fun n=>if base≤n then NamesOf ns (n - base) else none
theorem baseN_add (base:Nat) (ns:List Value) (n:Nat):baseN base ns (base+n)=NamesOf ns n:=by
 unfold baseN;rw[if_pos (by omega)];congr 1;omega
theorem baseN_some {base:Nat} {ns:List Value} {n x:Nat} {v:Value} (h:baseN base ns n=some (x,v)):∃k,n=base+k∧ns[k]?=some v∧x=0:=by
 unfold baseN at h
 split at h
 ·simp only[NamesOf,Option.map_eq_some_iff] at h
  obtain⟨u,hu,he⟩:=h
  cases he
  exact⟨n - base,by omega,hu,rfl⟩
 ·cases h
def frM (w:World) (ns:List Value) (So:Nat→Prop) (n:Nat):Fr:={keep:=fun g=>g<w.heap.size∧¬blks ns g,old:=So,lent:=fun k=>if n≤k then(match ns[k - n]? with|some (.pointer (some a))=>some a|_=>none) else none,ref:=w,stay:=fun k=>if n≤k then(ns[k - n]?).map At else none}
theorem sat_enterM {args:List V} {vs ns:List Value} {So:Nat→Prop} {m:List Bk} (hm:MemOk w.heap.size (oldS So) w ns m) (h:RelL (NamesOf ns) (oldS So) w args vs) (n:Nat) (hn:args.length≤n) (h16:m.length≤16):
  Sat (frM w ns So n) w (baseN n ns) (oldS So) (args.map (V.sh n)++List.replicate (n - args.length) .un) (inM n m) {tmps:=vs.toArray++Array.replicate (n - vs.toArray.size) undef,defers:=[]} w:=by
 have hN:=baseN_add n ns
 refine⟨Low.refl _ _,rfl,⟨by simp[h.1],fun i v hv=>?_⟩,?_,?_,?_,?_,?_,?_,fun _ h=>h.1,fun g hg=> .inr hg.2,fun k a hk=>?_,⟨Nat.le_refl _,fun p h=>(by cases h),fun g h=>h.elim,hm.inv.1,fun g hg=>⟨ginv_lt hm.inv.1 hg,hm.inv.2 g hg⟩⟩,fun k og hk=>?_⟩
 rotate_right
 ·simp only[frM] at hk
  split at hk
  rotate_left
  ·cases hk
  rename_i hle
  rw[Option.map_eq_some_iff] at hk
  obtain⟨v,hv,rfl⟩:=hk
  have hlt:=lt_of_get hv
  rw[hm.len] at hlt
  have hlen:(args.map (V.sh n)++List.replicate (n - args.length) V.un).length=n:=by simp;omega
  rw[hlen]
  refine⟨.inr ⟨hle,by omega⟩,0,v,?_,.inr fun g hg=> .inl hg⟩
  unfold baseN
  rw[if_pos hle]
  simp[NamesOf,hv]
 ·rw[List.getElem?_append] at hv
  split at hv
  ·rename_i hlt
   rw[List.getElem?_map,Option.map_eq_some_iff] at hv
   obtain⟨v',hv',rfl⟩:=hv
   have:=sh_rel hN (h.2 i v' hv')
   have hlt':i<vs.length:=by rw[←h.1];exact lt_of_get hv'
   have e:(({tmps:=vs.toArray++Array.replicate (n - vs.toArray.size) undef,defers:=[]}:Act).tmps.toList).getD i undef=vs.getD i undef:=by
    simp only[Array.toList_append,List.getD_eq_getElem?_getD]
    rw[List.getElem?_append_left hlt']
   rw[e];exact this
  ·rw[List.getElem?_replicate] at hv
   split at hv
   ·cases hv;exact .un _
   ·cases hv
 ·intro k b hb
  obtain⟨j,b0,rfl,h1,rfl⟩:=inM_get hb
  exact sh_holds hN (hm.blk j b0 h1)
 ·intro k hk
  rcases inM_none hk with h1|h1
  ·unfold baseN;rw[if_neg (by omega)]
  ·unfold baseN
   split
   ·simp only[NamesOf]
    rw[List.getElem?_eq_none (by rw[hm.len];exact h1)];rfl
   ·rfl
 ·intro j k x y u v g h1 h2 h3 h4
  obtain⟨j',rfl,a1,_⟩:=baseN_some h1
  obtain⟨k',rfl,a2,_⟩:=baseN_some h2
  rw[hm.apart j' k' u v g a1 a2 h3 h4]
 ·intro f g hg
  refine⟨(hm.data f g hg).1,fun k x v h1 h2=>?_⟩
  obtain⟨k',rfl,a1,_⟩:=baseN_some h1
  exact(hm.data f g hg).2 ⟨v,List.mem_of_getElem? a1,h2⟩
 ·intro g hg;cases hg.1
 ·intro k x v g h1 h2
  obtain⟨k',rfl,a1,_⟩:=baseN_some h1
  have:blks ns g:=⟨v,List.mem_of_getElem? a1,h2⟩
  exact⟨fun hk=>hk.2 this,hm.lt g this⟩
 ·simp only[frM] at hk
  split at hk
  rotate_left
  ·cases hk
  rename_i hle
  split at hk
  rotate_left
  ·cases hk
  rename_i a' ha
  cases hk
  have hlt:=lt_of_get ha
  rw[hm.len] at hlt
  have hlen:(args.map (V.sh n)++List.replicate (n - args.length) V.un).length=n:=by simp;omega
  rw[hlen]
  refine⟨hle,by omega,?_⟩
  unfold baseN
  rw[if_pos hle]
  simp[NamesOf,ha]
end
end Go.Proofs.YtdccglkagfdooaaGreatDoor
namespace Go.Proofs.YtdccglkagfdooaaGreatDoor
open Go.RowKit
def has:List Nat→Nat→Bool
 |[],_=>false
 |a::l,n=>match Nat.beq a n with
  |true=>true
  |false=>has l n
def idx:List Nat→Nat→Nat→Option Nat
 |[],_,_=>none
 |a::l,n,i=>match Nat.beq a n with
  |true=>some i
  |false=>idx l n (i+1)
def V.nm1:V→List Nat
 | .bx n _=>[n]
 | .ic _ n=>[n]
 | .ow n _=>[n]
 | .vw n _ _ _ _=>[n]
 | .oq n _ _ _ _=>[n]
 |_=>[]
def V.nm2:V→List Nat
 | .fn _ _ cs=>cs.flatMap V.nm1
 |v=>v.nm1
def Bk.names:Bk→List Nat
 | .box cs _=>cs.flatMap V.nm2
 | .row .. =>[]
 | .fz .. =>[]
 | .asr _ _ outs=>outs.flatMap V.nm2
def V.bn1:V→List Nat
 | .bx n _=>[n]
 | .ic _ n=>[n]
 |_=>[]
def V.bn:V→List Nat
 | .ag cs=>cs.flatMap V.bn1
 | .fn _ _ cs=>cs.flatMap V.nm1
 |v=>v.bn1
def reach (m:List (Option Bk)):Nat→List Nat→List Nat→List Nat
 |0,_,acc=>acc
 |_+1,[],acc=>acc
 |f+1,n::todo,acc=>match has acc n,m[n]? with
  |false,some (some b)=>reach m f (b.names++todo) (n::acc)
  |_,_=>reach m f todo acc
def revK:List Nat→List Nat→(List Nat→Prop)→Prop
 |[],acc,K=>K acc
 |n::l,acc,K=>revK l (n::acc) K
def distinctB:List Nat→Bool
 |[]=>true
 |n::l=>match has l n with
  |true=>false
  |false=>distinctB l
def V.ex1 (ρ:List Nat) (m:List (Option Bk)):V→V
 | .bx n o=>match idx ρ n 0 with
  |some i=> .bx i o
  |none=> .un
 | .ic t n=>match idx ρ n 0 with
  |some i=> .ic t i
  |none=> .un
 | .ow n k=>match m[n]? with
  |some (some (.row k' _ sz f xs))=>match decide (k=k'),idx ρ n 0,f with
   |true,some i,_=> .ow i 0
   |true,none,true=> .sl true sz xs
   |_,_,_=> .un
  |some (some (.asr k' _ _))=>match decide (k=k'),idx ρ n 0 with
   |true,some i=> .ow i 0
   |_,_=> .un
  |_=> .un
 | .oq n k sz j o=>match cur m n,idx ρ n 0 with
  |some k',some i=>(match Nat.beq k k' with
   |true=> .oq i 0 sz j o
   |false=> .un)
  |_,_=> .un
 | .vw n k s lo hi=>match m[n]? with
  |some (some (.row k' _ sz f xs))=>match decide (k=k'∧s=sz),idx ρ n 0,f with
   |true,some i,_=> .vw i 0 s lo hi
   |true,none,true=> .sl true sz ((xs.take hi).drop lo)
   |_,_,_=> .un
  |_=> .un
 | .cv v=> .cv v
 | .kb b=> .cv (.bool b)
 | .sl f sz xs=> .sl f sz xs
 | .el f cells o=> .el f cells o
 |_=> .un
def V.ex (ρ:List Nat) (m:List (Option Bk)):V→V
 | .ag cs=> .ag (cs.map (V.ex1 ρ m))
 | .fn f n cs=> .fn f n (cs.map (V.ex1 ρ m))
 |v=>v.ex1 ρ m
def Bk.ex (ρ:List Nat) (m:List (Option Bk)):Bk→Bk
 | .box cs bt=> .box (cs.map (V.ex ρ m)) bt
 | .row _ E sz f xs=> .row 0 E sz f xs
 | .fz _ E bs=> .fz 0 E bs
 | .asr _ A outs=> .asr 0 A (outs.map (V.ex ρ m))
def exM (ρ:List Nat) (m:List (Option Bk)):List Nat→Option (List Bk)
 |[]=>some []
 |n::l=>match m[n]?,exM ρ m l with
  |some (some b),some bs=>some (b.ex ρ m::bs)
  |_,_=>none
section
variable {P:Program} {T:Tab} {B:Fr} {w0:World} {N:Names} {S:Sets} {t t':List V} {m m':List (Option Bk)} {a:Act} {w:World} {ρ:List Nat}
theorem idx_spec:∀{l:List Nat} {n i j:Nat},idx l n i=some j→i≤j∧l[j - i]?=some n
 |[],n,i,j,h=>by cases h
 |a::l,n,i,j,h=>by
  simp only[idx] at h
  split at h
  ·rename_i hb
   cases h
   have:=Nat.eq_of_beq_eq_true hb
   subst this
   exact⟨Nat.le_refl _,by simp⟩
  ·obtain⟨h1,h2⟩:=idx_spec h
   refine⟨by omega,?_⟩
   rw[show j - i=(j - (i+1))+1 by omega]
   simpa using h2
theorem idx_none:∀{l:List Nat} {n i:Nat},idx l n i=none→n∉l
 |[],n,i,_=>by simp
 |a::l,n,i,h=>by
  simp only[idx] at h
  split at h
  ·cases h
  ·rename_i hb
   have h1:=idx_none h
   simp only[List.mem_cons,not_or]
   refine⟨fun e=>?_,h1⟩
   subst e
   have:Nat.beq n n=true:=by simp
   rw[this] at hb;cases hb
theorem has_spec:∀{l:List Nat} {n:Nat},has l n=false→n∉l
 |[],n,_=>by simp
 |a::l,n,h=>by
  simp only[has] at h
  split at h
  ·cases h
  ·rename_i hb
   simp only[List.mem_cons,not_or]
   refine⟨fun e=>?_,has_spec h⟩
   subst e
   have:Nat.beq n n=true:=by simp
   rw[this] at hb;cases hb
theorem distinctB_spec:∀{l:List Nat},distinctB l=true→∀(i j n:Nat),l[i]?=some n→l[j]?=some n→i=j
 |[],_,i,j,n,h,_=>by simp at h
 |a::l,hd,i,j,n,h1,h2=>by
  simp only[distinctB] at hd
  split at hd
  ·cases hd
  rename_i hh
  have hn:=has_spec hh
  cases i with
  |zero=>
   cases j with
   |zero=>rfl
   |succ j=>simp at h1 h2;subst h1;exact absurd (List.mem_of_getElem? h2) hn
  |succ i=>
   cases j with
   |zero=>simp at h1 h2;subst h2;exact absurd (List.mem_of_getElem? h1) hn
   |succ j=>rw[distinctB_spec hd i j n (by simpa using h1) (by simpa using h2)]
def valsOf (N:Names) (ρ:List Nat):List Value:=ρ.map fun n=>((N n).map (·.2)).getD undef
theorem valsOf_get {i n x:Nat} {v:Value} (h:ρ[i]?=some n) (hn:N n=some (x,v)):(valsOf N ρ)[i]?=some v:=by
 simp[valsOf,List.getElem?_map,h,hn]
theorem valsOf_names {i n x:Nat} {v:Value} (h:ρ[i]?=some n) (hn:N n=some (x,v)):NamesOf (valsOf N ρ) i=some (0,v):=by
 simp[NamesOf,valsOf_get h hn]
theorem blks_valsOf (_hρ:∀n∈ρ,∃b,m[n]?=some (some b)) (_hs:Sat B w0 N S t m a w) {g:Nat} (h:blks (valsOf N ρ) g):∃n∈ρ,∃x v,N n=some (x,v)∧At v g:=by
 obtain⟨v,hv,hg⟩:=h
 simp only[valsOf,List.mem_map] at hv
 obtain⟨n,hn,rfl⟩:=hv
 cases hN:N n with
 |none=>rw[hN] at hg;simp[At,at1,undef] at hg
 |some p=>rw[hN] at hg;exact⟨n,hn,p.1,p.2,hN,by simpa using hg⟩
theorem ex1_rel (hs:Sat B w0 N S t m a w) (hρ:∀n∈ρ,∃b,m[n]?=some (some b)) {v:V} {u:Value} (h:RelV N S w v u):RelV (NamesOf (valsOf N ρ)) (newS B.old w0 w (valsOf N ρ)) w (v.ex1 ρ m) u:=by
 have hnb:∀f g,S f g→¬blks (valsOf N ρ) g:=fun f g hg hb=>by
  obtain⟨n,_,x,v,h1,h2⟩:=blks_valsOf hρ hs hb
  exact(hs.data f g hg).2 n x v h1 h2
 have hS:∀f g,S f g→newS B.old w0 w (valsOf N ρ) f g:=fun f g hg=>by
  refine⟨(hs.data f g hg).1,hnb f g hg,?_⟩
  cases f with
  |true=>exact .inl (hs.fresh g hg).2
  | false => rcases hs.old g hg with h|h
             · exact .inl h
             · exact .inr ⟨rfl,h⟩
 have hrow:∀{n:Nat} {k':Nat} {v:Value},N n=some (k',v)→n∉ρ→(∀g,At v g→w0.heap.size≤g)→∀g,At v g→newS B.old w0 w (valsOf N ρ) true g:=by
  intro n k' v hn hni hnew g hg
  refine⟨(hs.own n k' v g hn hg).2,fun hb=>?_,.inl (hnew g hg)⟩
  obtain⟨n',hn',x,v',h1,h2⟩:=blks_valsOf hρ hs hb
  have:=hs.apart n n' _ _ _ _ g hn h1 hg h2
  subst this;exact hni hn'
 cases h<;>simp only[V.ex1]<;>try exact .un _
 ·exact .cv _
 ·exact .cv _
 ·rename_i f sz xs h
  exact .sl _ _ _ _ (h.mono (hS f) fun _ _=>rfl)
 ·rename_i f cells o b off hSb u hc
  exact .el _ _ _ _ _ (hS _ _ hSb) u fun j d hj=>⟨(hc j d hj).1,(hc j d hj).2.mono (hS f) fun _ _=>rfl⟩
 ·rename_i n o b hn
  split
  ·rename_i i hi
   exact .bx _ _ _ (valsOf_names (by simpa using(idx_spec hi).2) hn)
  ·exact .un _
 ·rename_i n k hu hn
  obtain⟨k',v,hn,hk,he⟩:=hn
  split
  ·rename_i k2 E sz f xs hm
   have hcells:=fun(f:Bool) (hf:f=true) (hm:m[n]?=some (some (.row k2 E sz f xs)))=>row_new hs (by rw[hf] at hm;exact hm) hn
   split
   ·rename_i hkk hi
    simp only[decide_eq_true_eq] at hkk
    subst hkk
    obtain⟨rfl,_⟩:=row_cells hs hm hn
    rw[(row_hdv hs hm hn).1] at he
    have hdq:=(row_hdv hs hm hn).1
    have:=he rfl
    subst this
    exact .ow _ _ _ hu ⟨0,_,valsOf_names (by simpa using(idx_spec hi).2) hn,Nat.le_refl _,fun _=>hdq.symm⟩
   ·rename_i hkk hi
    simp only[decide_eq_true_eq] at hkk
    subst hkk
    have hb6:=hcells true rfl hm
    obtain⟨rfl,h1,h2,h3⟩:=row_cells hs hm hn
    rw[(row_hdv hs hm hn).1] at he
    have:=he rfl
    subst this
    rcases h3 with⟨rfl,rfl⟩|⟨g,cap,us,rfl,h4,h5,_,_,h6⟩
    ·exact .sl _ _ _ _ (.nil _ _ _)
    ·refine .sl _ _ _ _ (.sl _ _ g 0 cap (fun i j=>us.getD (i*sz+j) undef) (hrow hn (idx_none hi) hb6 g rfl) h1 h5 (fun i j d hd=>?_) (fun i j d hd=>?_))
     ·obtain⟨h7,_⟩:=h6 i j d hd
      rw[cell_of_row w g _ us E _ h4]
      simp[Array.getD_eq_getD_getElem?,h7]
     ·exact(h6 i j d hd).2.mono (hS true) fun _ _=>rfl
   ·exact .un _
  ·rename_i k2 A outs hm
   split
   ·rename_i hkk hi
    simp only[decide_eq_true_eq] at hkk
    subst hkk
    obtain⟨fs,us,e1,_⟩:=hs.blk n _ hm
    rw[hn] at e1;cases e1
    exact .ow _ _ _ hu ⟨0,_,valsOf_names (by simpa using(idx_spec hi).2) hn,Nat.le_refl _,fun _=>he rfl⟩
   ·exact .un _
  ·exact .un _
 ·rename_i n k sz j o hu hn
  obtain⟨k',v,hn,hk,he⟩:=hn
  split
  ·rename_i kc i hc hi
   split
   ·rename_i hkk
    have hkk:=Nat.eq_of_beq_eq_true hkk
    subst hkk
    have e1:k'=k:=by
     unfold cur at hc
     split at hc
     ·rename_i hm;cases hc;obtain⟨v',us,e,_⟩:=hs.blk n _ hm;rw[hn] at e;cases e;rfl
     ·rename_i hm;cases hc;obtain⟨v',us,e,_⟩:=hs.blk n _ hm;rw[hn] at e;cases e;rfl
     ·cases hc
    subst e1
    exact .oq _ _ _ _ _ _ hu ⟨0,_,valsOf_names (by simpa using(idx_spec hi).2) hn,Nat.le_refl _,fun _=>he rfl⟩
   ·exact .un _
  ·exact .un _
 ·rename_i n k s lo hi hu hn
  obtain⟨k',v,hn,hk,he⟩:=hn
  split
  ·rename_i k2 E sz f xs hm
   split
   ·rename_i hkk hi
    simp only[decide_eq_true_eq] at hkk
    obtain⟨rfl,rfl⟩:=hkk
    obtain⟨rfl,_⟩:=row_cells hs hm hn
    exact .vw _ _ _ _ _ _ hu ⟨0,_,valsOf_names (by simpa using(idx_spec hi).2) hn,Nat.le_refl _,fun _=>he rfl⟩
   ·rename_i hkk hi
    simp only[decide_eq_true_eq] at hkk
    obtain⟨rfl,rfl⟩:=hkk
    have hb6:=row_new hs hm hn
    obtain⟨rfl,_⟩:=row_cells hs hm hn
    rw[(row_hdv hs hm hn).1] at he
    exact .sl _ _ _ _ (vw_data hs hm hn (he rfl) (hS true) fun g hg=>hrow hn (idx_none hi) hb6 g hg)
   ·exact .un _
  ·exact .un _
 ·rename_i t n b hn
  split
  ·rename_i i hi
   exact .ic _ _ _ (valsOf_names (by simpa using(idx_spec hi).2) hn)
  ·exact .un _
theorem ex_rel (hs:Sat B w0 N S t m a w) (hρ:∀n∈ρ,∃b,m[n]?=some (some b)) {v:V} {u:Value} (h:RelV N S w v u):RelV (NamesOf (valsOf N ρ)) (newS B.old w0 w (valsOf N ρ)) w (v.ex ρ m) u:=by
 have list:∀{cs:List V} {i:Nat} {v:V} {us:Array Value},(∀i v,cs[i]?=some v→RelV N S w v (us.getD i undef))→(cs.map (V.ex1 ρ m))[i]?=some v→RelV (NamesOf (valsOf N ρ)) (newS B.old w0 w (valsOf N ρ)) w v (us.getD i undef):=by
  intro cs i v us h hv
  rw[List.getElem?_map,Option.map_eq_some_iff] at hv
  obtain⟨v',hv',rfl⟩:=hv
  exact ex1_rel hs hρ (h i v' hv')
 unfold V.ex
 split
 ·cases h with
  |ag _ us hl h=>exact .ag _ us (by simpa using hl) fun i v hv=>list h hv
 ·cases h with
  |fn _ _ _ us vs hn hl h=>exact .fn _ _ _ us vs hn (by simpa using hl) fun i v hv=>list h hv
 ·exact ex1_rel hs hρ h
theorem exM_get:∀{l:List Nat} {bs:List Bk},exM ρ m l=some bs→l.length=bs.length∧∀(i:Nat) (b':Bk),bs[i]?=some b'→∃n b,l[i]?=some n∧m[n]?=some (some b)∧b'=b.ex ρ m
 |[],bs,h=>by cases h;exact⟨rfl,fun i b' hb=>by simp at hb⟩
 |n::l,bs,h=>by
  simp only[exM] at h
  split at h
  ·rename_i b bs' h1 h2
   cases h
   obtain⟨e1,e2⟩:=exM_get h2
   refine⟨by simp[e1],fun i b' hb=>?_⟩
   cases i with
   |zero=>simp at hb;subst hb;exact⟨n,b,by simp,h1,rfl⟩
   |succ i=>simpa using e2 i b' (by simpa using hb)
  ·cases h
theorem exM_mem {l:List Nat} {bs:List Bk} (h:exM ρ m l=some bs):∀n∈l,∃b,m[n]?=some (some b):=by
 obtain⟨h1,h2⟩:=exM_get h
 intro n hn
 obtain⟨i,hi,rfl⟩:=List.getElem_of_mem hn
 obtain⟨n',b,h3,h4,_⟩:=h2 i _ (List.getElem?_eq_getElem (by omega))
 rw[List.getElem?_eq_getElem hi] at h3;cases h3
 exact⟨b,h4⟩
theorem exM_ok (hs:Sat B w0 N S t m a w) (hd:distinctB ρ=true) {bs:List Bk} (h:exM ρ m ρ=some bs):MemOk w0.heap.size (newS B.old w0 w (valsOf N ρ)) w (valsOf N ρ) bs:=by
 have hρ:=exM_mem h
 obtain⟨h1,h2⟩:=exM_get h
 have hget:∀{i:Nat} {v:Value},(valsOf N ρ)[i]?=some v→∃n x,ρ[i]?=some n∧N n=some (x,v):=by
  intro i v hv
  simp only[valsOf,List.getElem?_map,Option.map_eq_some_iff] at hv
  obtain⟨n,hn,rfl⟩:=hv
  obtain⟨b,hb⟩:=hρ n (List.mem_of_getElem? hn)
  have:=hs.blk n b hb
  cases b with
  |box cs=>obtain⟨g,ty,us,e,_⟩:=this;exact⟨n,_,hn,by rw[e];rfl⟩
  |row k E sz f xs=>obtain⟨v,us,e,_⟩:=this;exact⟨n,_,hn,by rw[e];rfl⟩
  |fz k E bs=>obtain⟨g,cap,us,fr,e,_⟩:=this;exact⟨n,_,hn,by rw[e];rfl⟩
  |asr k A outs=>obtain⟨fs,us,e,_⟩:=this;exact⟨n,_,hn,by rw[e];rfl⟩
 refine⟨by simp[valsOf,h1],fun k b' hb'=>?_,fun j k u v g hj hk hu hv=>?_,fun f g hg=>⟨hg.1,hg.2.1⟩,fun g hg=>?_,hs.inv,fun g hg hb=>by
  obtain⟨n,_,x,v,h3,h4⟩:=blks_valsOf hρ hs hb
  exact(hs.own n x v g h3 h4).1 (hs.more.inv.2 g hg)⟩
 ·obtain⟨n,b,h3,h4,rfl⟩:=h2 k b' hb'
  have hH:=hs.blk n b h4
  cases b with
  |box cs=>
   obtain⟨g,ty,us,e1,e2,e3,e4⟩:=hH
   refine⟨g,ty,us,valsOf_names h3 e1,e2,by simpa using e3,fun i v hv=>?_⟩
   rw[List.getElem?_map,Option.map_eq_some_iff] at hv
   obtain⟨v',hv',rfl⟩:=hv
   exact ex_rel hs hρ (e4 i v' hv')
  |row k' E sz f xs=>
   obtain⟨v,us,e1,e2,e3,e4,e5,e6⟩:=hH
   refine⟨v,us,valsOf_names h3 e1,e2,e3,e4,fun i j d hd'=>?_,e6⟩
   obtain⟨u,hu,hr⟩:=e5 i j d hd'
   refine⟨u,hu,hr.mono (fun g hg=>?_) fun _ _=>rfl⟩
   refine⟨(hs.data f g hg).1,fun hb=>?_,?_⟩
   ·obtain⟨n',_,x,v',a1,a2⟩:=blks_valsOf hρ hs hb
    exact(hs.data f g hg).2 n' x v' a1 a2
   ·cases f with
    |true=>exact .inl (hs.fresh g hg).2
    | false => rcases hs.old g hg with h|h
               · exact .inl h
               · exact .inr ⟨rfl,h⟩
  |fz k' E bs=>
   obtain⟨g,cap,us,fr,e1,e2⟩:=hH
   exact⟨g,cap,us,fr,valsOf_names h3 e1,e2⟩
  |asr k' A outs=>
   obtain⟨fs,us,e1,e2,e3⟩:=hH
   refine⟨fs,us,valsOf_names h3 e1,⟨by simpa using e2.1,fun i v hv=>?_⟩,A.mono (fun g hg=>?_) (fun _ _=>rfl) (fun _ _=>rfl) e3⟩
   ·rw[List.getElem?_map,Option.map_eq_some_iff] at hv
    obtain⟨v',hv',rfl⟩:=hv
    exact ex_rel hs hρ (e2.2 i v' hv')
   ·refine⟨(hs.data false g hg).1,fun hb=>?_,?_⟩
    ·obtain⟨n',_,x,v',a1,a2⟩:=blks_valsOf hρ hs hb
     exact(hs.data false g hg).2 n' x v' a1 a2
    ·rcases hs.old g hg with h|h
     ·exact .inl h
     ·exact .inr ⟨rfl,h⟩
 ·obtain⟨n,x,a1,a2⟩:=hget hj
  obtain⟨n',x',b1,b2⟩:=hget hk
  have:=hs.apart n n' _ _ _ _ g a2 b2 hu hv
  subst this
  exact distinctB_spec hd j k n a1 b1
 ·obtain⟨n,_,x,v,h3,h4⟩:=blks_valsOf hρ hs hg
  exact(hs.own n x v g h3 h4).2
end
end Go.Proofs.YtdccglkagfdooaaGreatDoor
