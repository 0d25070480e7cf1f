/- Texts joined by pack.py: XSxS XSxV XSxW -/
import Derived.Test.YtdccglkagfdooaaGreatDoorBz10
namespace Go.Proofs.YtdccglkagfdooaaGreatDoor
open Go.RowKit
def upto:Nat→Nat→List Nat
 |_,0=>[]
 |b,n+1=>b::upto (b+1) n
def preB:List Nat→List Nat→Bool
 |[],_=>true
 |a::l,b::l'=>match Nat.beq a b with
  |true=>preB l l'
  |false=>false
 |_::_,[]=>false
def rawL (T:Tab) (t:List V) (m:List (Option Bk)):List ResultVar→(List V→Prop)→Prop
 |[],K=>K []
 |r::l,K=>match resV T t m r with
  |some v=>v.k fun v=>rawL T t m l fun vs=>K (v::vs)
  |none=>False
def exL (T:Tab) (ρ:List Nat) (m:List (Option Bk)):List V→List TypeId→List V
 |[],_=>[]
 |v::vs,ty::tys=>(v.ex ρ m).z (czs T 5 ty)::exL T ρ m vs tys
 |v::vs,[]=>v.ex ρ m::exL T ρ m vs []
def tupV:List V→V
 |[v]=>v
 |vs=> .tu vs
def kidsOf (m:List (Option Bk)) (n:Nat):List Nat:=match m[n]? with
 |some (some b)=>b.names
 |_=>[]
def DoneM (sd:List V→List Nat) (T:Tab) (fn:Func) (nl:Nat) (res:V) (m':List Bk):Ex→St→Prop
 | .exit _,_=>False
 |_,⟨t,m⟩=>rawL T t m fn.results.toList fun vs=>revK (reach m 64 ((upto fn.ntmps nl).flatMap (kidsOf m)++sd vs) (upto fn.ntmps nl).reverse) [] fun ρ=>
  (distinctB ρ&&preB (upto fn.ntmps nl) ρ)=true∧exM ρ m ρ=some m'∧tupV (exL T ρ m vs fn.resultTypes.toList)=res
def enterMK (fn:Func) (args:List V) (m:List Bk) (K:St→Prop):Prop:=
 forceAll (args.map (V.sh fn.ntmps)++List.replicate (fn.ntmps - args.length) .un) fun t=>forceM (inM fn.ntmps m) fun m=>K ⟨t,m⟩
def BodyM (sd:List V→List Nat) (P:Program) (T:Tab) (fn:Func) (args:List V) (m:List Bk) (res:V) (m':List Bk):Prop:=
 match fn.body with
 |some c=>enterMK fn args m fun st=>awp P T c st (DoneM sd T fn m.length res m')
 |none=>False
def DoneG (sd:List V→List Nat) (T:Tab) (fn:Func) (nl:Nat) (res:V) (m':List Bk):Ex→St→Prop
 | .exit _,_=>False
 |_,st=>∃st',Gh st st'∧DoneM sd T fn nl res m' .normal st'
def BodyG (sd:List V→List Nat) (P:Program) (T:Tab) (fn:Func) (args:List V) (m:List Bk) (res:V) (m':List Bk):Prop:=
 match fn.body with
 |some c=>enterMK fn args m fun st=>awp P T c st (DoneG sd T fn m.length res m')
 |none=>False
section
variable {P:Program} {T:Tab} {B:Fr} {w0:World} {N:Names} {S:Sets} {t t':List V} {m m':List (Option Bk)} {a:Act} {w:World} {ρ:List Nat}
theorem revK_eq:∀(l acc:List Nat) (K:List Nat→Prop),revK l acc K=K (l.reverse++acc)
 |[],acc,K=>rfl
 |n::l,acc,K=>by simp[revK,revK_eq l]
theorem upto_get:∀(b n k:Nat),k<n→(upto b n)[k]?=some (b+k)
 |b,0,k,h=>by omega
 |b,n+1,0,h=>by simp[upto]
 |b,n+1,k+1,h=>by simp only[upto,List.getElem?_cons_succ];rw[upto_get (b+1) n k (by omega)];congr 1;omega
theorem upto_length:∀(b n:Nat),(upto b n).length=n
 |b,0=>rfl
 |b,n+1=>by simp[upto,upto_length]
theorem preB_spec:∀{l l':List Nat},preB l l'=true→l.length≤l'.length∧∀(i n:Nat),l[i]?=some n→l'[i]?=some n
 |[],l',_=>⟨by simp,fun i n h=>by simp at h⟩
 |a::l,[],h=>by simp[preB] at h
 |a::l,b::l',h=>by
  simp only[preB] at h
  split at h
  ·rename_i hb
   have:=Nat.eq_of_beq_eq_true hb
   subst this
   obtain⟨h1,h2⟩:=preB_spec h
   refine⟨by simp[h1],fun i n hi=>?_⟩
   cases i with
   |zero=>simpa using hi
   |succ i=>simpa using h2 i n (by simpa using hi)
  ·cases h
theorem rawL_sound (hT:TOk P T) (hs:Sat B w0 N S t m a w):∀(rs:List ResultVar) {K:List V→Prop},rawL T t m rs K→
  ∃us vs,(rs.mapM (resR a)).run P w= .ok us w∧RelL N S w vs us∧K vs
 |[],K,h=>⟨[],[],rfl,⟨rfl,by simp⟩,h⟩
 |r::rs,K,h=>by
  simp only[rawL] at h
  split at h
  rotate_left
  ·cases h
  rename_i v hv
  rw[k_eq] at h
  obtain⟨u,h1,h2⟩:=resV_sound hT hs hv
  obtain⟨us,vs,h3,h4,h5⟩:=rawL_sound hT hs rs h
  refine⟨u::us,v::vs,?_,⟨by simp[h4.1],fun i v' hv'=>?_⟩,h5⟩
  ·rw[List.mapM_cons]
   simp only[Sem.run_bind,h1,h3,Sem.run_pure,Result.andThen_ok]
  ·cases i with
   |zero=>simp at hv';subst hv';exact h2
   |succ i=>simpa using h4.2 i v' (by simpa using hv')
theorem exL_rel (hs:Sat B w0 N S t m a w) (hρ:∀n∈ρ,∃b,m[n]?=some (some b)):∀{vs:List V} {us:List Value} (tys:List TypeId),RelL N S w vs us→RelL (NamesOf (valsOf N ρ)) (newS B.old w0 w (valsOf N ρ)) w (exL T ρ m vs tys) us
 |[],us,tys,h=>by
  have e:exL T ρ m [] tys=[]:=by cases tys<;>rfl
  rw[e]
  exact⟨h.1,fun i v hv=>by simp at hv⟩
 |v::vs,us,tys,h=>by
  cases us with
  |nil=>have:=h.1;simp at this
  |cons u us=>
   have hv:=ex_rel hs hρ (by simpa using h.2 0 v rfl)
   have htl:RelL N S w vs us:=⟨by simpa using h.1,fun i v' hv'=>by simpa using h.2 (i+1) v' (by simpa using hv')⟩
   have mk:∀{v':V} {vs':List V},RelV (NamesOf (valsOf N ρ)) (newS B.old w0 w (valsOf N ρ)) w v' u→RelL (NamesOf (valsOf N ρ)) (newS B.old w0 w (valsOf N ρ)) w vs' us→RelL (NamesOf (valsOf N ρ)) (newS B.old w0 w (valsOf N ρ)) w (v'::vs') (u::us):=by
    intro v' vs' h1 h2
    refine⟨by simp[h2.1],fun i x hx=>?_⟩
    cases i with
    |zero=>simp at hx;subst hx;exact h1
    |succ i=>simpa using h2.2 i x (by simpa using hx)
   cases tys with
   |nil=>exact mk hv (exL_rel hs hρ [] htl)
   |cons ty tys=>exact mk (z_rel _ hv) (exL_rel hs hρ tys htl)
theorem doneM_ret {sd:List V→List Nat} {st:Bool} (hT:TOk P T) {fn:Func} {m0:List Bk} {res:V} {m1:List Bk} {w:World} {ns:List Value} {So:Nat→Prop} (hmem:MemOk w.heap.size (oldS So) w ns m0):
  ∀(a:Act) (w':World),(∃N S t m,Sat (frM w ns So fn.ntmps) w N S t m a w'∧DoneM sd T fn m0.length res m1 .ret ⟨t,m⟩∧(st=true→∀(k:Nat) (v:Value),ns[k]?=some v→∃x v',N (fn.ntmps+k)=some (x,v')∧SameHd v v'))→a.defers=[]∧∃v,(results fn a.tmps).run P w'= .ok v w'∧
    ∃v' ns',Ending.returned v= .returned v'∧MemOk w.heap.size (newS So w w' ns') w' ns' m1∧RelV (NamesOf ns') (newS So w w' ns') w' res v'∧
     Low (fun g=>g<w.heap.size∧¬blks ns g) w w'∧ns.length≤ns'.length∧(∀(k:Nat) (a:Addr),ns[k]?=some (.pointer (some a))→ns'[k]?=some (.pointer (some a)))∧(∀g,blks ns' g→blks ns g∨w.heap.size≤g)∧(st=true→∀(k:Nat) (v:Value),ns[k]?=some v→∃v',ns'[k]?=some v'∧SameHd v v')∧
     (∀(k:Nat) (v v':Value),ns[k]?=some v→ns'[k]?=some v'→(∃us,v'= .agg us)∨∀g,At v' g→At v g∨w.heap.size≤g):=by
 rintro a w' ⟨N,S,t,m,hs,h,hN⟩
 simp only[DoneM] at h
 obtain⟨us,vs',h1,h2,h3⟩:=rawL_sound hT hs _ h
 rw[revK_eq] at h3
 generalize (reach m 64 ((upto fn.ntmps m0.length).flatMap (kidsOf m)++sd vs') (upto fn.ntmps m0.length).reverse).reverse++[]=ρ at h3
 obtain⟨h3,h4,h5⟩:=h3
 simp only[Bool.and_eq_true] at h3
 obtain⟨hd,hp⟩:=h3
 have hρ:=exM_mem h4
 have hok:=exM_ok hs hd h4
 have hrel:=exL_rel (T:=T) hs hρ fn.resultTypes.toList h2
 obtain⟨hp1,hp2⟩:=preB_spec hp
 rw[upto_length] at hp1
 have hrest:Low (fun g=>g<w.heap.size∧¬blks ns g) w w'∧ns.length≤(valsOf N ρ).length∧(∀(k:Nat) (a:Addr),ns[k]?=some (.pointer (some a))→(valsOf N ρ)[k]?=some (.pointer (some a)))∧(∀g,blks (valsOf N ρ) g→blks ns g∨w.heap.size≤g)∧(st=true→∀(k:Nat) (v:Value),ns[k]?=some v→∃v',(valsOf N ρ)[k]?=some v'∧SameHd v v')∧
   (∀(k:Nat) (v v':Value),ns[k]?=some v→(valsOf N ρ)[k]?=some v'→(∃us,v'= .agg us)∨∀g,At v' g→At v g∨w.heap.size≤g):=by
  refine⟨hs.low,by rw[hmem.len];simpa[valsOf] using hp1,fun k a hk=>?_,fun g hg=>?_,(fun h k v hk=>by
   have hlt:=lt_of_get hk
   rw[hmem.len] at hlt
   obtain⟨x,v',hx,hd⟩:=hN h k v hk
   exact⟨v',valsOf_get (hp2 k _ (upto_get _ _ _ hlt)) hx,hd⟩),fun k v v' hv hv'=>?_⟩
  rotate_right
  ·have hlt:=lt_of_get hv
   rw[hmem.len] at hlt
   obtain⟨_,x,v1,c2,c3⟩:=hs.stay (fn.ntmps+k) (At v) (by simp[frM,hv])
   have:=valsOf_get (hp2 k _ (upto_get _ _ _ hlt)) c2
   rw[hv'] at this;cases this
   exact c3
  ·have hlt:=lt_of_get hk
   rw[hmem.len] at hlt
   have:=(hs.lent (fn.ntmps+k) a (by simp[frM,hk])).2.2
   exact valsOf_get (hp2 k _ (upto_get _ _ _ hlt)) this
  ·obtain⟨n,_,x,v,h6,h7⟩:=blks_valsOf hρ hs hg
   have:=(hs.own n x v g h6 h7).1
   simp only[frM,not_and,Classical.not_not] at this
   rcases Nat.lt_or_ge g w.heap.size with h|h
   ·exact .inl (this h)
   ·exact .inr h
 have hrun:∀v,(if h:us.toArray.size=1 then us.toArray[0] else .tuple us.toArray)=v→(results fn a.tmps).run P w'= .ok v w':=by
  intro v hv
  unfold results
  rw[Array.mapM_eq_mapM_toList]
  change Sem.run P (do
   let vs ←List.toArray<$>fn.results.toList.mapM (resR a)
   pure (if h:vs.size=1 then vs[0] else Value.tuple vs)) w'=_
  simp only[Sem.run_bind,Sem.run_map,h1,Result.andThen_ok,Sem.run_pure,hv]
 refine⟨hs.nodef,?_⟩
 generalize exL T ρ m vs' fn.resultTypes.toList=rs at hrel h5
 subst h5
 unfold tupV
 split
 ·rename_i v
  obtain⟨u,rfl⟩:∃u,us=[u]:=by
   have:=hrel.1
   match us,this with
   |[u],_=>exact⟨u,rfl⟩
  exact⟨u,hrun u rfl,u,valsOf N ρ,rfl,hok,by simpa[frM] using hrel.2 0 _ rfl,hrest⟩
 ·rename_i hne
  have hsz:us.toArray.size≠1:=by
   intro e
   have:us.length=1:=by simpa using e
   have h4:=hrel.1
   rw[this] at h4
   match rs,h4 with
   |[v],_=>exact hne v rfl
  refine⟨.tuple us.toArray,hrun _ (by rw[dif_neg hsz]),_,valsOf N ρ,rfl,hok,.tu _ _ (by simpa using hrel.1) fun i v hv=>?_,hrest⟩
  have:=hrel.2 i v hv
  rw[←getD_toList];simpa[frM] using this
theorem mcalls_of {sd:List V→List Nat} (hT:TOk P T) (hm:P.follows .mixedOrders=true) {f:FuncId} {fn:Func} (hf:P.funcs[f]?=some fn) (hn:(fn.name== "runtime.NumGoroutine")=false) {args:List V} {m0:List Bk} {res:V} {m1:List Bk}
  (h16:(decide (args.length≤fn.ntmps)&&decide (m0.length≤16))=true) (h:BodyM sd P T fn args m0 res m1):MCalls P f args m0 res m1:=by
 simp only[Bool.and_eq_true,decide_eq_true_eq] at h16
 unfold BodyM at h
 cases hb:fn.body with
 |none=>rw[hb] at h;exact h.elim
 |some c=>
  rw[hb] at h
  refine⟨⟨fn,hf,hn,by rw[hb];rfl⟩,fun w vs ns So hmem hvs=>?_⟩
  simp only[enterMK,forceAll_eq,forceM_eq] at h
  refine calls_of_wp hf hb (Go.wp_mono (awp_sound (B:=frM w ns So fn.ntmps) (w0:=w) hT hm ⟨by intro p hp;simp[frM] at hp,rfl⟩ c _ _ w ⟨_,_,_,_,sat_enterM hmem hvs fn.ntmps h16.1 h16.2,h⟩) ?_)
  have key:=doneM_ret (P:=P) (sd:=sd) (st:=false) (fn:=fn) (res:=res) (m1:=m1) hT hmem
  intro e a w' h
  cases e<;>simp only[QK] at h<;>first|exact h.elim|skip
  ·obtain⟨N,S,t,m,hs,h⟩:=h
   exact key a w' ⟨N,S,t,m,hs,h,fun e=>by cases e⟩
  ·obtain⟨N,S,t,m,hs,h⟩:=h;exact h.elim
  ·obtain⟨N,S,t,m,hs,h⟩:=h
   exact key a w' ⟨N,S,t,m,hs,h,fun e=>by cases e⟩
theorem mcalls_ofG {sd:List V→List Nat} (hT:TOk P T) (hm:P.follows .mixedOrders=true) {f:FuncId} {fn:Func} (hf:P.funcs[f]?=some fn) (hn:(fn.name== "runtime.NumGoroutine")=false) {args:List V} {m0:List Bk} {res:V} {m1:List Bk}
  (h16:(decide (args.length≤fn.ntmps)&&decide (m0.length≤16))=true) (h:BodyG sd P T fn args m0 res m1):MCalls P f args m0 res m1:=by
 simp only[Bool.and_eq_true,decide_eq_true_eq] at h16
 unfold BodyG at h
 cases hb:fn.body with
 |none=>rw[hb] at h;exact h.elim
 |some c=>
  rw[hb] at h
  refine⟨⟨fn,hf,hn,by rw[hb];rfl⟩,fun w vs ns So hmem hvs=>?_⟩
  simp only[enterMK,forceAll_eq,forceM_eq] at h
  refine calls_of_wp hf hb (Go.wp_mono (awp_sound (B:=frM w ns So fn.ntmps) (w0:=w) hT hm ⟨by intro p hp;simp[frM] at hp,rfl⟩ c _ _ w ⟨_,_,_,_,sat_enterM hmem hvs fn.ntmps h16.1 h16.2,h⟩) ?_)
  have key:=doneM_ret (P:=P) (sd:=sd) (st:=false) (fn:=fn) (res:=res) (m1:=m1) hT hmem
  intro e a w' h
  cases e<;>simp only[QK] at h<;>first|exact h.elim|skip
  ·obtain⟨N,S,t,m,hs,⟨t1,m2⟩,hg,h⟩:=h
   obtain⟨N',S',hs'⟩:=hg _ _ _ _ _ _ hs
   exact key a w' ⟨N',S',t1,m2,hs',h,fun e=>by cases e⟩
  ·obtain⟨N,S,t,m,hs,h⟩:=h;exact h.elim
  ·obtain⟨N,S,t,m,hs,⟨t1,m2⟩,hg,h⟩:=h
   obtain⟨N',S',hs'⟩:=hg _ _ _ _ _ _ hs
   exact key a w' ⟨N',S',t1,m2,hs',h,fun e=>by cases e⟩
end
end Go.Proofs.YtdccglkagfdooaaGreatDoor
namespace Go.Proofs.YtdccglkagfdooaaGreatDoor
open Go.RowKit
def frz1:List (Option Bk)→List V→Option (List V×List (Option Bk))
 |m,[]=>some ([],m)
 |m,.ow n k::l=>match m[n]? with
  |some (some (.row k' E sz true xs))=>if k=k' then(match frz1 (m.set n (some (.row (k+1) E sz true []))) l with
   |some (l',m')=>some (.sl true sz xs::l',m')
   |none=>none) else none
  |some (some (.asr ..))=>(match frz1 m l with
   |some (l',m')=>some (.ow n k::l',m')
   |none=>none)
  |_=>none
 |m,.vw n k s lo hi::l=>match m[n]? with
  |some (some (.row k' E sz true xs))=>if k=k'∧s=sz then(match frz1 (m.set n (some (.row (k+1) E sz true []))) l with
   |some (l',m')=>some (.sl true sz ((xs.take hi).drop lo)::l',m')
   |none=>none) else none
  |_=>none
 |m,v::l=>match frz1 m l with
  |some (l',m')=>some (v::l',m')
  |none=>none
def frz:List (Option Bk)→List V→Option (List V×List (Option Bk))
 |m,[]=>some ([],m)
 |m,.ag cs::l=>match frz1 m cs with
  |some (cs',m1)=>(match frz m1 l with
   |some (l',m')=>some (.ag cs'::l',m')
   |none=>none)
  |none=>none
 |m,v::l=>match frz1 m [v] with
  |some ([v'],m1)=>(match frz m1 l with
   |some (l',m')=>some (v'::l',m')
   |none=>none)
  |_=>none
def frzB (ln:Bool) (m:List (Option Bk)) (l:List V):Option (List V×List (Option Bk)):=match ln with
 |true=>some (l,m)
 |false=>frz m l
def V.nm3:V→List Nat
 | .ag cs=>cs.flatMap V.nm1
 | .fn _ _ cs=>cs.flatMap V.nm1
 |v=>v.nm1
def V.ab1 (ρ:List Nat) (m:List (Option Bk)):V→V
 | .bx n o=>match idx ρ n 0 with
  |some i=> .bx i o
  |none=> .un
 | .ow n k=>match m[n]? with
  |some (some (.row k' _ _ _ _))=>match decide (k=k'),idx ρ n 0 with
   |true,some i=> .ow i 0
   |_,_=> .un
  |some (some (.asr k' _ _))=>match decide (k=k'),idx ρ n 0 with
   |true,some i=> .ow i 0
   |_,_=> .un
  |_=> .un
 | .vw n k s lo hi=>match m[n]? with
  |some (some (.row k' _ sz _ _))=>match decide (k=k'∧s=sz),idx ρ n 0 with
   |true,some i=> .vw i 0 s lo hi
   |_,_=> .un
  |_=> .un
 | .cv v=> .cv v
 | .kb b=> .cv (.bool b)
 | .sl _ sz xs=> .sl false sz xs
 | .el _ cells o=> .el false cells o
 |_=> .un
def V.ab (ρ:List Nat) (m:List (Option Bk)):V→V
 | .ag cs=> .ag (cs.map (V.ab1 ρ m))
 | .fn f n cs=> .fn f n (cs.map (V.ab1 ρ m))
 |v=>v.ab1 ρ m
def Bk.ab (ρ:List Nat) (m:List (Option Bk)):Bk→Bk
 | .box cs bt=> .box (cs.map (V.ab ρ m)) bt
 | .row _ E sz _ xs=> .row 0 E sz false xs
 | .fz _ E bs=> .fz 0 E bs
 | .asr _ A outs=> .asr 0 A (outs.map (V.ab ρ m))
def abM (ρ:List Nat) (m:List (Option Bk)):List Nat→Option (List Bk)
 |[]=>some []
 |n::l=>match m[n]?,abM ρ m l with
  |some (some b),some bs=>some (b.ab ρ m::bs)
  |_,_=>none
def V.fl1:V→Bool
 | .sl f _ _=>f
 | .el f _ _=>f
 |_=>true
def V.fl:V→Bool
 | .ag cs=>cs.all V.fl1
 | .fn _ _ cs=>cs.all V.fl1
 |v=>v.fl1
def Bk.fl:Bk→Bool
 | .box cs _=>cs.all V.fl
 | .row _ _ _ f _=>f
 | .fz .. =>false
 | .asr .. =>false
def flM (m:List (Option Bk)) (ρ:List Nat):Bool:=ρ.all fun n=>match m[n]? with
 |some (some b)=>b.fl
 |_=>false
section
variable {P:Program} {T:Tab} {B:Fr} {w0:World} {N:Names} {S:Sets} {t t':List V} {m m':List (Option Bk)} {a:Act} {w:World} {ρ:List Nat}
theorem Sat.freeze (hs:Sat B w0 N S t m a w) {n k E sz:Nat} {xs:List (List D)} (hm:m[n]?=some (some (.row k E sz true xs))):
  ∃(N':Names) (S':Sets),Sat B w0 N' S' t (m.set n (some (.row (k+1) E sz true []))) a w∧(∀v u,RelV N S w v u→RelV N' S' w v u)∧(∀f g,S f g→S' f g)∧∀v,N n=some (k,v)→∀f g,At v g→S' f g:=by
 obtain⟨v,us,h1,h2,h3,h4,h5,h6⟩:=hs.blk n _ hm
 have hsl:∃A l c,v= .slice A l c:=by obtain⟨A,c,h⟩:=own_parts h2;exact⟨_,_,_,h⟩
 let N':Names:=fun j=>if j=n then some (k+1,.slice none 0 0) else N j
 let S':Sets:=fun f g=>S f g∨At v g
 have hNn:N' n=some (k+1,.slice none 0 0):=by simp[N']
 have hNo:∀j,j≠n→N' j=N j:=fun j hj=>by simp[N',hj]
 have hN:NLe N N':=by
  intro j k0 v0 h0
  by_cases hj:j=n
  ·subst hj
   rw[h1] at h0;cases h0
   exact .inr (.inl ⟨hsl,k+1,_,hNn,by omega⟩)
  ·exact .inl ((hNo j hj).trans h0)
 have hS:∀f g,S f g→S' f g:=fun f g h=> .inl h
 have hrel:∀v u,RelV N S w v u→RelV N' S' w v u:=fun v u h=>h.mono hN hS fun _ _ _=>rfl
 refine⟨N',S',?_,hrel,hS,fun v' hv' f g hg=>by rw[h1] at hv';cases hv';exact .inr hg⟩
 refine⟨hs.low,hs.nodef,hs.tmps.mono hN hS fun _ _ _=>rfl,?_,?_,?_,?_,?_,?_,hs.base,?_,?_,hs.more.mono (Nat.le_refl _) hrel hs.base fun f g h=>h.imp id fun h=> .inr (hs.own n k v g h1 h).1,fun j og hj=>?_⟩
 rotate_right
 ·obtain⟨c1,x,v1,c2,c3⟩:=hs.stay j og hj
  refine⟨c1,?_⟩
  by_cases hjn:j=n
  ·subst hjn
   exact⟨_,_,hNn,.inr fun g hg=>by simp[At,at1] at hg⟩
  ·exact⟨x,v1,(hNo j hjn).trans c2,c3⟩
 ·intro j b hj
  by_cases hjn:j=n
  ·subst hjn
   rw[List.getElem?_set_self (lt_of_get hm)] at hj
   cases hj
   exact⟨_,[],hNn,World.ownsRow_nil w 0 E sz,by simp,h4,by simp,fun _ g hg=>by simp[At,at1] at hg⟩
  ·rw[List.getElem?_set_ne (Ne.symm hjn)] at hj
   exact(hs.blk j b hj).mono (hNo j hjn) hN hS (fun _ _ _=>rfl) fun _ _ _ _ _=>rfl
 ·intro j hj
  by_cases hjn:j=n
  ·subst hjn;exact absurd (List.getElem?_set_self (lt_of_get hm)) (hj _)
  ·rw[hNo j hjn]
   exact hs.non j fun b hb=>hj b (by rw[List.getElem?_set_ne (Ne.symm hjn)];exact hb)
 ·intro i j x y u u' g h7 h8 h9 h10
  by_cases hi:i=n
  ·subst hi;rw[hNn] at h7;cases h7;simp[At,at1] at h9
  ·by_cases hj:j=n
   ·subst hj;rw[hNn] at h8;cases h8;simp[At,at1] at h10
   ·rw[hNo i hi] at h7;rw[hNo j hj] at h8
    exact hs.apart i j x y u u' g h7 h8 h9 h10
 ·intro f g hg
  rcases hg with hg|hg
  ·refine⟨(hs.data f g hg).1,fun j x v0 h7 h8=>?_⟩
   by_cases hj:j=n
   ·subst hj;rw[hNn] at h7;cases h7;simp[At,at1] at h8
   ·rw[hNo j hj] at h7;exact(hs.data f g hg).2 j x v0 h7 h8
  ·refine⟨(hs.own n k v g h1 hg).2,fun j x v0 h7 h8=>?_⟩
   by_cases hj:j=n
   ·subst hj;rw[hNn] at h7;cases h7;simp[At,at1] at h8
   ·rw[hNo j hj] at h7;exact hj (hs.apart j n x k v0 v g h7 h1 h8 hg)
 ·intro g hg
  rcases hg with hg|hg
  ·exact⟨.inl (hs.fresh g hg).1,(hs.fresh g hg).2⟩
  ·exact⟨.inr hg,h6 rfl g hg⟩
 ·intro j x v0 g h7 h8
  by_cases hj:j=n
  ·subst hj;rw[hNn] at h7;cases h7;simp[At,at1] at h8
  ·rw[hNo j hj] at h7;exact hs.own j x v0 g h7 h8
 ·intro g hg
  rcases hg with hg|hg
  ·exact hs.old g hg
  ·exact .inl (h6 rfl g hg)
 ·intro j g hj
  obtain⟨h7,h8,h9⟩:=hs.lent j g hj
  refine⟨h7,h8,?_⟩
  have:j≠n:=by
   rintro rfl
   rw[h1] at h9;cases h9
   obtain⟨A,l,c,h⟩:=hsl
   cases h
  rw[hNo j this];exact h9
theorem relV_cons {N:Names} {S:Sets} {v:V} {u:Value} {vs:List V} {us:List Value} (h1:RelV N S w v u) (h2:RelL N S w vs us):RelL N S w (v::vs) (u::us):=by
 refine⟨by simp[h2.1],fun i x hx=>?_⟩
 cases i with
 |zero=>simp at hx;subst hx;exact h1
 |succ i=>simpa using h2.2 i x (by simpa using hx)
theorem relL_uncons {N:Names} {S:Sets} {v:V} {vs:List V} {us:List Value} (h:RelL N S w (v::vs) us):∃u us',us=u::us'∧RelV N S w v u∧RelL N S w vs us':=by
 cases us with
 |nil=>have:=h.1;simp at this
 |cons u us=>exact⟨u,us,rfl,by simpa using h.2 0 v rfl,by simpa using h.1,fun i v' hv'=>by simpa using h.2 (i+1) v' (by simpa using hv')⟩
theorem relL_mono' {N N':Names} {S S':Sets} {vs:List V} {us:List Value} (h:RelL N S w vs us) (hr:∀v u,RelV N S w v u→RelV N' S' w v u):RelL N' S' w vs us:=⟨h.1,fun i v hv=>hr _ _ (h.2 i v hv)⟩
theorem ow_data (hs:Sat B w0 N S t m a w) {n k E sz:Nat} {f:Bool} {xs:List (List D)} (hm:m[n]?=some (some (.row k E sz f xs))) {u:Value} (h:RelV N S w (.ow n k) u) {S':Nat→Prop} (hS:∀g,S f g→S' g) (ho:∀v,N n=some (k,v)→∀g,At v g→S' g):
  RelD S' w (.sl sz xs) u:=by
 cases h with
 |ow _ _ _ hu hn=>
  obtain⟨k',v,hn,hk,he⟩:=hn
  obtain⟨rfl,h1,h2,h3⟩:=row_cells hs hm hn
  have:=he rfl
  subst this
  rcases h3 with⟨rfl,rfl⟩|⟨g,cap,us,rfl,h4,h5,_,_,h6⟩
  ·exact .nil _ _ _
  ·refine .sl _ _ g 0 cap (fun i j=>us.getD (i*sz+j) undef) (ho _ hn g rfl) h1 h5 (fun i j d hd=>?_) (fun i j d hd=>?_)
   ·obtain⟨h7,_⟩:=h6 i j d hd
    rw[cell_of_row w g _ us E _ h4]
    simp[Array.getD_eq_getD_getElem?,h7]
   ·exact(h6 i j d hd).2.mono hS fun _ _=>rfl
theorem frz1_sound:∀{l l':List V} {m m':List (Option Bk)} {N:Names} {S:Sets} {us:List Value},Sat B w0 N S t m a w→RelL N S w l us→frz1 m l=some (l',m')→
  ∃(N':Names) (S':Sets),Sat B w0 N' S' t m' a w∧RelL N' S' w l' us∧∀v u,RelV N S w v u→RelV N' S' w v u:=by
 intro l
 induction l with
 |nil=>intro l' m m' N S us hs hr h;simp[frz1] at h;obtain⟨rfl,rfl⟩:=h;exact⟨N,S,hs,hr,fun _ _ h=>h⟩
 |cons v l ih=>
  intro l' m m' N S us hs hr h
  obtain⟨u,us',rfl,hv,hl⟩:=relL_uncons hr
  have plain:(match frz1 m l with
    |some (l',m')=>some (v::l',m')
    |none=>none)=some (l',m')→∃(N':Names) (S':Sets),Sat B w0 N' S' t m' a w∧RelL N' S' w l' (u::us')∧∀v u,RelV N S w v u→RelV N' S' w v u:=by
   intro h
   split at h
   ·rename_i l2 m2 h2
    cases h
    obtain⟨N',S',h3,h4,h5⟩:=ih hs hl h2
    exact⟨N',S',h3,relV_cons (h5 _ _ hv) h4,h5⟩
   ·cases h
  cases v<;>simp only[frz1] at h<;>try exact plain h
  ·rename_i n k
   split at h
   rotate_left
   ·exact plain h
   ·cases h
   rename_i k' E sz xs hm
   split at h
   rotate_left
   ·cases h
   rename_i hkk
   subst hkk
   split at h
   rotate_left
   ·cases h
   rename_i l2 m2 h2
   cases h
   obtain⟨N1,S1,h3,h4,h5,h6⟩:=hs.freeze hm
   obtain⟨N',S',h7,h8,h9⟩:=ih h3 (relL_mono' hl h4) h2
   refine⟨N',S',h7,relV_cons (h9 _ _ (.sl _ _ _ _ (ow_data hs hm hv (fun g hg=>h5 _ _ hg) fun v hv g hg=>h6 v hv true g hg))) h8,fun v u h=>h9 _ _ (h4 _ _ h)⟩
  ·rename_i n k s lo hi
   split at h
   rotate_left
   ·cases h
   rename_i k' E sz xs hm
   split at h
   rotate_left
   ·cases h
   rename_i hkk
   obtain⟨rfl,rfl⟩:=hkk
   split at h
   rotate_left
   ·cases h
   rename_i l2 m2 h2
   cases h
   obtain⟨N1,S1,h3,h4,h5,h6⟩:=hs.freeze hm
   obtain⟨N',S',h7,h8,h9⟩:=ih h3 (relL_mono' hl h4) h2
   refine⟨N',S',h7,relV_cons (h9 _ _ ?_) h8,fun v u h=>h9 _ _ (h4 _ _ h)⟩
   cases hv with
   |vw _ _ _ _ _ _ hu hn=>
    obtain⟨k',v,hn,hk,he⟩:=hn
    obtain⟨rfl,_⟩:=row_cells hs hm hn
    rw[(row_hdv hs hm hn).1] at he
    exact .sl _ _ _ _ (vw_data hs hm hn (he rfl) (fun g hg=>h5 _ _ hg) fun g hg=>h6 v hn true g hg)
theorem frz_sound:∀{l l':List V} {m m':List (Option Bk)} {N:Names} {S:Sets} {us:List Value},Sat B w0 N S t m a w→RelL N S w l us→frz m l=some (l',m')→
  ∃(N':Names) (S':Sets),Sat B w0 N' S' t m' a w∧RelL N' S' w l' us∧∀v u,RelV N S w v u→RelV N' S' w v u:=by
 intro l
 induction l with
 |nil=>intro l' m m' N S us hs hr h;simp[frz] at h;obtain⟨rfl,rfl⟩:=h;exact⟨N,S,hs,hr,fun _ _ h=>h⟩
 |cons v l ih=>
  intro l' m m' N S us hs hr h
  obtain⟨u,us',rfl,hv,hl⟩:=relL_uncons hr
  have plain:(match frz1 m [v] with
    |some ([v'],m1)=>(match frz m1 l with
     |some (l',m')=>some (v'::l',m')
     |none=>none)
    |_=>none)=some (l',m')→∃(N':Names) (S':Sets),Sat B w0 N' S' t m' a w∧RelL N' S' w l' (u::us')∧∀v u,RelV N S w v u→RelV N' S' w v u:=by
   intro h
   split at h
   rotate_left
   ·cases h
   rename_i v' m1 h1
   split at h
   rotate_left
   ·cases h
   rename_i l2 m2 h2
   cases h
   obtain⟨N1,S1,h3,h4,h5⟩:=frz1_sound hs (relV_cons hv ⟨rfl,by simp⟩:RelL N S w [v] [u]) h1
   obtain⟨N',S',h7,h8,h9⟩:=ih h3 (relL_mono' hl h5) h2
   exact⟨N',S',h7,relV_cons (h9 _ _ (by simpa using h4.2 0 v' rfl)) h8,fun v u h=>h9 _ _ (h5 _ _ h)⟩
  cases v<;>simp only[frz] at h<;>try exact plain h
  rename_i cs
  split at h
  rotate_left
  ·cases h
  rename_i cs' m1 h1
  split at h
  rotate_left
  ·cases h
  rename_i l2 m2 h2
  cases h
  cases hv with
  |ag _ vs hl1 hc=>
   obtain⟨N1,S1,h3,h4,h5⟩:=frz1_sound (us:=vs.toList) hs ⟨by simpa using hl1,fun i v hv=>by rw[getD_toList];exact hc i v hv⟩ h1
   obtain⟨N',S',h7,h8,h9⟩:=ih h3 (relL_mono' hl h5) h2
   exact⟨N',S',h7,relV_cons (.ag _ _ (by simpa using h4.1) fun i v hv=>h9 _ _ (by rw[←getD_toList];exact h4.2 i v hv)) h8,fun v u h=>h9 _ _ (h5 _ _ h)⟩
theorem frzB_sound {ln:Bool} {l l':List V} {us:List Value} (hs:Sat B w0 N S t m a w) (hr:RelL N S w l us) (h:frzB ln m l=some (l',m')):
  ∃(N':Names) (S':Sets),Sat B w0 N' S' t m' a w∧RelL N' S' w l' us∧∀v u,RelV N S w v u→RelV N' S' w v u:=by
 cases ln with
 |true=>cases h;exact⟨N,S,hs,hr,fun _ _ h=>h⟩
 |false=>exact frz_sound hs hr h
theorem ab_rel (hs:Sat B w0 N S t m a w) {gf:Bool} {v:V} {u:Value} (hf:gf=true→v.fl=true) (h:RelV N S w v u):RelV (NamesOf (valsOf N ρ)) (oldS (S gf)) w (v.ab ρ m) u:=by
 have hSg:∀f:Bool,(gf=true→f=true)→∀g,S f g→oldS (S gf) false g:=by
  intro f hf g hg
  refine⟨rfl,?_⟩
  cases gf with
  |true=>rw[hf rfl] at hg;exact hg
  |false=>cases f with
   |false=>exact hg
   |true=>exact(hs.fresh g hg).1
 have one:∀{v:V} {u:Value},(gf=true→v.fl1=true)→RelV N S w v u→RelV (NamesOf (valsOf N ρ)) (oldS (S gf)) w (v.ab1 ρ m) u:=by
  intro v u hf h
  cases h<;>simp only[V.ab1]<;>try exact .un _
  ·exact .cv _
  ·exact .cv _
  ·rename_i f sz xs h
   exact .sl _ _ _ _ (h.mono (hSg f hf) fun _ _=>rfl)
  ·rename_i f cells o b off hSb u hc
   exact .el _ _ _ _ _ (hSg f hf _ hSb) u fun j d hj=>⟨(hc j d hj).1,(hc j d hj).2.mono (hSg f hf) fun _ _=>rfl⟩
  ·rename_i n o b hn
   split
   ·rename_i i hi
    exact .bx _ _ _ (valsOf_names (by simpa using(idx_spec hi).2) hn)
   ·exact .un _
  ·rename_i n k hu hn
   obtain⟨k',v,hn,hk,he⟩:=hn
   split
   ·rename_i k2 E sz f xs hm
    split
    ·rename_i hkk hi
     simp only[decide_eq_true_eq] at hkk
     subst hkk
     obtain⟨rfl,_⟩:=row_cells hs hm hn
     exact .ow _ _ _ hu ⟨0,_,valsOf_names (by simpa using(idx_spec hi).2) hn,Nat.le_refl _,fun _=>he rfl⟩
    ·exact .un _
   ·rename_i k2 A outs hm
    split
    ·rename_i hkk hi
     simp only[decide_eq_true_eq] at hkk
     subst hkk
     obtain⟨fs,us,e1,_⟩:=hs.blk n _ hm
     rw[hn] at e1;cases e1
     exact .ow _ _ _ hu ⟨0,_,valsOf_names (by simpa using(idx_spec hi).2) hn,Nat.le_refl _,fun _=>he rfl⟩
    ·exact .un _
   ·exact .un _
  ·rename_i n k s lo hi hu hn
   obtain⟨k',v,hn,hk,he⟩:=hn
   split
   ·rename_i k2 E sz f xs hm
    split
    ·rename_i hkk hi
     simp only[decide_eq_true_eq] at hkk
     obtain⟨rfl,rfl⟩:=hkk
     obtain⟨rfl,_⟩:=row_cells hs hm hn
     exact .vw _ _ _ _ _ _ hu ⟨0,_,valsOf_names (by simpa using(idx_spec hi).2) hn,Nat.le_refl _,fun _=>he rfl⟩
    ·exact .un _
   ·exact .un _
 have list:∀{cs:List V} {i:Nat} {v:V} {us:Array Value},(gf=true→cs.all V.fl1=true)→(∀i v,cs[i]?=some v→RelV N S w v (us.getD i undef))→(cs.map (V.ab1 ρ m))[i]?=some v→RelV (NamesOf (valsOf N ρ)) (oldS (S gf)) w v (us.getD i undef):=by
  intro cs i v us hf h hv
  rw[List.getElem?_map,Option.map_eq_some_iff] at hv
  obtain⟨v',hv',rfl⟩:=hv
  exact one (fun e=>List.all_eq_true.1 (hf e) v' (List.mem_of_getElem? hv')) (h i v' hv')
 unfold V.ab
 split
 ·cases h with
  |ag _ us hl h=>exact .ag _ us (by simpa using hl) fun i v hv=>list hf h hv
 ·cases h with
  |fn _ _ _ us vs hn hl h=>exact .fn _ _ _ us vs hn (by simpa using hl) fun i v hv=>list hf h hv
 ·rename_i h1 h2
  refine one (fun e=>?_) h
  have:=hf e
  cases v<;>first|exact this|exact absurd rfl (h1 _)|exact absurd rfl (h2 _ _ _)
theorem abM_get:∀{l:List Nat} {bs:List Bk},abM ρ m l=some bs→l.length=bs.length∧∀(i:Nat) (b':Bk),bs[i]?=some b'→∃n b,l[i]?=some n∧m[n]?=some (some b)∧b'=b.ab ρ m
 |[],bs,h=>by cases h;exact⟨rfl,fun i b' hb=>by simp at hb⟩
 |n::l,bs,h=>by
  simp only[abM] at h
  split at h
  ·rename_i b bs' h1 h2
   cases h
   obtain⟨e1,e2⟩:=abM_get h2
   refine⟨by simp[e1],fun i b' hb=>?_⟩
   cases i with
   |zero=>simp at hb;subst hb;exact⟨n,b,by simp,h1,rfl⟩
   |succ i=>simpa using e2 i b' (by simpa using hb)
  ·cases h
theorem abM_mem {l:List Nat} {bs:List Bk} (h:abM ρ m l=some bs):∀n∈l,∃b,m[n]?=some (some b):=by
 obtain⟨h1,h2⟩:=abM_get h
 intro n hn
 obtain⟨i,hi,rfl⟩:=List.getElem_of_mem hn
 obtain⟨n',b,h3,h4,_⟩:=h2 i _ (List.getElem?_eq_getElem (by omega))
 rw[List.getElem?_eq_getElem hi] at h3;cases h3
 exact⟨b,h4⟩
theorem vals_named (hs:Sat B w0 N S t m a w) (hρ:∀n∈ρ,∃b,m[n]?=some (some b)) {i:Nat} {v:Value} (hv:(valsOf N ρ)[i]?=some v):∃n x,ρ[i]?=some n∧N n=some (x,v):=by
 simp only[valsOf,List.getElem?_map,Option.map_eq_some_iff] at hv
 obtain⟨n,hn,rfl⟩:=hv
 obtain⟨b,hb⟩:=hρ n (List.mem_of_getElem? hn)
 have:=hs.blk n b hb
 cases b with
 |box cs=>obtain⟨g,ty,us,e,_⟩:=this;exact⟨n,_,hn,by rw[e];rfl⟩
 |row k E sz f xs=>obtain⟨v,us,e,_⟩:=this;exact⟨n,_,hn,by rw[e];rfl⟩
 |fz k E bs=>obtain⟨g,cap,us,fr,e,_⟩:=this;exact⟨n,_,hn,by rw[e];rfl⟩
 |asr k A outs=>obtain⟨fs,us,e,_⟩:=this;exact⟨n,_,hn,by rw[e];rfl⟩
theorem abM_ok (hs:Sat B w0 N S t m a w) (hd:distinctB ρ=true) {gf:Bool} (hf:gf=true→flM m ρ=true) {bs:List Bk} (h:abM ρ m ρ=some bs):MemOk w.heap.size (oldS (S gf)) w (valsOf N ρ) bs:=by
 have hρ:=abM_mem h
 obtain⟨h1,h2⟩:=abM_get h
 refine⟨by simp[valsOf,h1],fun k b' hb'=>?_,fun j k u v g hj hk hu hv=>?_,fun f g hg=>⟨(hs.data _ g hg.2).1,fun hb=>?_⟩,fun g hg=>?_,hs.inv,fun g hg hb=>by
  obtain⟨n,_,x,v,h3,h4⟩:=blks_valsOf hρ hs hb
  exact(hs.own n x v g h3 h4).1 (hs.more.inv.2 g hg)⟩
 ·obtain⟨n,b,h3,h4,rfl⟩:=h2 k b' hb'
  have hH:=hs.blk n b h4
  have hfb:gf=true→b.fl=true:=fun e=>by
   have:=List.all_eq_true.1 (hf e) n (List.mem_of_getElem? h3)
   simpa[h4] using this
  cases b with
  |box cs=>
   obtain⟨g,ty,us,e1,e2,e3,e4⟩:=hH
   refine⟨g,ty,us,valsOf_names h3 e1,e2,by simpa using e3,fun i v hv=>?_⟩
   rw[List.getElem?_map,Option.map_eq_some_iff] at hv
   obtain⟨v',hv',rfl⟩:=hv
   exact ab_rel hs (fun e=>List.all_eq_true.1 (hfb e) v' (List.mem_of_getElem? hv')) (e4 i v' hv')
  |row k' E sz f xs=>
   obtain⟨v,us,e1,e2,e3,e4,e5,e6⟩:=hH
   refine⟨v,us,valsOf_names h3 e1,e2,e3,e4,fun i j d hd'=>?_,fun e=>by cases e⟩
   obtain⟨u,hu,hr⟩:=e5 i j d hd'
   refine⟨u,hu,hr.mono (fun g hg=>⟨rfl,?_⟩) fun _ _=>rfl⟩
   cases gf with
   |true=>have:f=true:=hfb rfl;subst this;exact hg
   |false=>cases f with
    |false=>exact hg
    |true=>exact(hs.fresh g hg).1
  |fz k' E bs=>
   obtain⟨g,cap,us,fr,e1,e2⟩:=hH
   exact⟨g,cap,us,fr,valsOf_names h3 e1,e2⟩
  |asr k' A outs=>
   have hgf:gf=false:=by cases gf with
    |false=>rfl
    |true=>exact absurd (hfb rfl) (by simp[Bk.fl])
   subst hgf
   obtain⟨fs,us,e1,e2,e3⟩:=hH
   refine⟨fs,us,valsOf_names h3 e1,⟨by simpa using e2.1,fun i v hv=>?_⟩,A.mono (fun g hg=>⟨rfl,hg⟩) (fun _ _=>rfl) (fun _ _=>rfl) e3⟩
   rw[List.getElem?_map,Option.map_eq_some_iff] at hv
   obtain⟨v',hv',rfl⟩:=hv
   exact ab_rel hs (fun e=>by cases e) (e2.2 i v' hv')
 ·obtain⟨n,x,a1,a2⟩:=vals_named hs hρ hj
  obtain⟨n',x',b1,b2⟩:=vals_named hs hρ hk
  have:=hs.apart n n' _ _ _ _ g a2 b2 hu hv
  subst this
  exact distinctB_spec hd j k n a1 b1
 ·obtain⟨n,_,x,v,a1,a2⟩:=blks_valsOf hρ hs hb
  exact(hs.data _ g hg.2).2 n x v a1 a2
 ·obtain⟨n,_,x,v,h3,h4⟩:=blks_valsOf hρ hs hg
  exact(hs.own n x v g h3 h4).2
end
end Go.Proofs.YtdccglkagfdooaaGreatDoor
namespace Go.Proofs.YtdccglkagfdooaaGreatDoor
open Go.RowKit
def verOf (st:Bool) (m:List (Option Bk)) (n:Nat):Nat:=match m[n]? with
 |some (some (.row k _ _ _ _))=>(match st with|true=>k|false=>k+1)
 |some (some (.asr k _ _))=>(match st with|true=>k|false=>k+1)
 |_=>0
def V.co1 (st:Bool) (ρ:List Nat) (m:List (Option Bk)) (g:Bool):V→V
 | .bx i o=>match ρ[i]? with
  |some n=> .bx n o
  |none=> .un
 | .ow i k=>match ρ[i]?,k with
  |some n,0=> .ow n (verOf st m n)
  |_,_=> .un
 | .oq i k sz j o=>match ρ[i]?,k with
  |some n,0=> .oq n (verOf st m n) sz j o
  |_,_=> .un
 | .vw i k sz lo hi=>match ρ[i]?,k with
  |some n,0=> .vw n (verOf st m n) sz lo hi
  |_,_=> .un
 | .cv v=> .cv v
 | .kb b=> .cv (.bool b)
 | .sl f sz xs=> .sl (f||g) sz xs
 | .el f cells o=> .el (f||g) cells o
 |_=> .un
def V.co2 (st:Bool) (ρ:List Nat) (m:List (Option Bk)) (g:Bool):V→V
 | .ag cs=> .ag (cs.map (V.co1 st ρ m g))
 | .fn f n cs=> .fn f n (cs.map (V.co1 st ρ m g))
 |v=>v.co1 st ρ m g
def V.co3 (st:Bool) (ρ:List Nat) (m:List (Option Bk)) (g:Bool):V→V
 | .tu cs=> .tu (cs.map (V.co2 st ρ m g))
 |v=>v.co2 st ρ m g
def Bk.co (st:Bool) (ρ:List Nat) (m:List (Option Bk)) (g:Bool) (n:Nat):Bk→Bk
 | .box cs bt=> .box (cs.map (V.co2 st ρ m g)) bt
 | .row _ E sz f xs=> .row (verOf st m n) E sz (f||g) xs
 | .fz _ E bs=> .fz (verOf st m n) E bs
 | .asr _ A outs=> .asr (verOf st m n) A (outs.map (V.co2 st ρ m g))
def putM (F:Nat→Bk→Bk):List Nat→List Bk→List (Option Bk)→List (Option Bk)
 |n::l,b::bs,m=>putM F l bs (m.set n (some (F n b)))
 |_,_,m=>m
def freeB (m:List (Option Bk)):List Nat→Bool
 |[]=>true
 |n::l=>match m[n]? with
  |some none=>freeB m l
  |_=>false
def kindB (m:List (Option Bk)):List Nat→List Bk→Bool
 |[],_=>true
 |n::l,b::bs=>match m[n]?,b with
  |some (some (.row ..)),.box _ _=>false
  |some (some (.fz ..)),_=>false
  |some (some (.asr ..)),.box _ _=>false
  |some (some (.asr ..)),.row .. =>false
  |some (some (.asr ..)),.fz .. =>false
  |_,_=>kindB m l bs
 |_::_,[]=>false
def calleeV (E:Operand→V) (c:Call):Option (FuncId×List V×List V):=
 match c.callee with
 | .value (.func f)=>some (f,[],[])
 | .value (.tmp t)=>match E (.tmp t) with
  | .cv (.func (.func f) fst cap)=>some (f,fst.toList.map .cv,cap.toList.map .cv)
  | .fn f n cs=>some (f,cs.take n,cs.drop n)
  |_=>none
 |_=>none
def zA (T:Tab) (E:Operand→V):List Operand→List TypeId→List V
 |[],_=>[]
 |x::l,ty::tys=>(E x).z (czs T 5 ty)::zA T E l tys
 |x::l,[]=>E x::zA T E l []
section
variable {P:Program} {T:Tab} {B:Fr} {w0:World} {N:Names} {S:Sets} {t t':List V} {m m':List (Option Bk)} {a:Act} {w:World} {ρ:List Nat}
theorem idx_of:∀{l:List Nat},distinctB l=true→∀{k n:Nat} (i:Nat),l[k]?=some n→idx l n i=some (i+k)
 |[],_,k,n,i,h=>by simp at h
 |b::l,hd,k,n,i,h=>by
  simp only[idx]
  cases k with
  |zero=>
   simp at h;subst h
   have:Nat.beq b b=true:=by simp
   rw[this];rfl
  |succ k=>
   have hne:b≠n:=by
    rintro rfl
    have:=distinctB_spec hd 0 (k+1) b (by simp) h
    omega
   have:Nat.beq b n=false:=by
    cases hb:Nat.beq b n with
    |true=>exact absurd (Nat.eq_of_beq_eq_true hb) hne
    |false=>rfl
   rw[this]
   simp only[distinctB] at hd
   split at hd
   ·cases hd
   ·show idx l n (i+1)=some (i+(k+1))
    rw[idx_of hd (i+1) (by simpa using h)];congr 1;omega
theorem freeB_spec:∀{l:List Nat},freeB m l=true→∀n∈l,m[n]?=some none
 |[],_,n,h=>by cases h
 |b::l,hf,n,h=>by
  simp only[freeB] at hf
  split at hf
  ·rename_i hb
   rcases List.mem_cons.1 h with rfl|h
   ·exact hb
   ·exact freeB_spec hf n h
  ·cases hf
theorem kindB_spec:∀{l:List Nat} {bs:List Bk},kindB m l bs=true→∀(i n k E sz:Nat) (f:Bool) (xs:List (List D)) (cs:List V) (bt:Option Nat),l[i]?=some n→m[n]?=some (some (.row k E sz f xs))→bs[i]?=some (.box cs bt)→False
 |[],bs,_,i,n,k,E,sz,f,xs,cs,bt,h,_,_=>by simp at h
 |b::l,[],h,i,n,k,E,sz,f,xs,cs,bt,h1,_,_=>by simp[kindB] at h
 |b::l,c::bs,h,i,n,k,E,sz,f,xs,cs,bt,h1,h2,h3=>by
  simp only[kindB] at h
  cases i with
  |zero=>
   simp at h1 h3;subst h1 h3
   rw[h2] at h;simp at h
  |succ i=>
   split at h<;>try(cases h;done)
   exact kindB_spec h i n k E sz f xs cs bt (by simpa using h1) h2 (by simpa using h3)
theorem kindB_fz:∀{l:List Nat} {bs:List Bk},kindB m l bs=true→∀(i n k E:Nat) (xs:List UInt8),l[i]?=some n→m[n]?=some (some (.fz k E xs))→False
 |[],bs,_,i,n,k,E,xs,h,_=>by simp at h
 |b::l,[],h,i,n,k,E,xs,h1,_=>by simp[kindB] at h
 |b::l,c::bs,h,i,n,k,E,xs,h1,h2=>by
  simp only[kindB] at h
  cases i with
  |zero=>
   simp at h1;subst h1
   rw[h2] at h;simp at h
  |succ i=>
   split at h<;>try(cases h;done)
   exact kindB_fz h i n k E xs (by simpa using h1) h2
theorem kindB_as:∀{l:List Nat} {bs:List Bk},kindB m l bs=true→∀(i n k:Nat) (A:Asrt) (o:List V) (b:Bk),l[i]?=some n→m[n]?=some (some (.asr k A o))→bs[i]?=some b→∃k' A' o',b= .asr k' A' o'
 |[],bs,_,i,n,k,A,o,b,h,_,_=>by simp at h
 |c::l,[],h,i,n,k,A,o,b,h1,_,_=>by simp[kindB] at h
 |c::l,d::bs,h,i,n,k,A,o,b,h1,h2,h3=>by
  simp only[kindB] at h
  cases i with
  |zero=>
   simp at h1 h3;subst h1 h3
   rw[h2] at h
   cases d with
   |asr k' A' o'=>exact⟨_,_,_,rfl⟩
   |_=>simp at h
  |succ i=>
   split at h<;>try(cases h;done)
   exact kindB_as h i n k A o b (by simpa using h1) h2 (by simpa using h3)
theorem putM_get {F:Nat→Bk→Bk}:∀{l:List Nat} {bs:List Bk} {m:List (Option Bk)},distinctB l=true→(∀n∈l,n<m.length)→l.length=bs.length→
  (∀(i n:Nat) (b:Bk),l[i]?=some n→bs[i]?=some b→(putM F l bs m)[n]?=some (some (F n b)))∧(∀n,n∉l→(putM F l bs m)[n]?=m[n]?)
 |[],bs,m,_,_,_=>⟨fun i n b h=>by simp at h,fun n _=>rfl⟩
 |c::l,[],m,_,_,h=>by simp at h
 |c::l,b::bs,m,hd,hl,hn=>by
  have hd':has l c=false∧distinctB l=true:=by
   simp only[distinctB] at hd
   split at hd
   ·cases hd
   ·rename_i h;exact⟨h,hd⟩
  obtain⟨h1,h2⟩:=putM_get (F:=F) (l:=l) (bs:=bs) (m:=m.set c (some (F c b))) hd'.2 (fun n hn=>by simpa using hl n (by simp[hn])) (by simpa using hn)
  have hc:=has_spec hd'.1
  refine⟨fun i n b' hi hb=>?_,fun n hn'=>?_⟩
  ·cases i with
   |zero=>
    simp at hi hb;subst hi hb
    simp only[putM]
    rw[h2 c hc,List.getElem?_set_self (hl c (by simp))]
   |succ i=>exact h1 i n b' (by simpa using hi) (by simpa using hb)
  ·simp only[List.mem_cons,not_or] at hn'
   simp only[putM]
   rw[h2 n hn'.2,List.getElem?_set_ne (Ne.symm hn'.1)]
theorem relL_app {N:Names} {S:Sets} {v1 v2:List V} {u1 u2:List Value} (h1:RelL N S w v1 u1) (h2:RelL N S w v2 u2):RelL N S w (v1++v2) (u1++u2):=by
 refine⟨by simp[h1.1,h2.1],fun i v hv=>?_⟩
 rw[List.getElem?_append] at hv
 rw[List.getD_eq_getElem?_getD,List.getElem?_append,←h1.1]
 split at hv
 ·rename_i hlt
  rw[if_pos hlt,←List.getD_eq_getElem?_getD];exact h1.2 i v hv
 ·rename_i hlt
  rw[if_neg hlt,←List.getD_eq_getElem?_getD];exact h2.2 _ v hv
theorem zA_rel {E:Operand→V}:∀{l:List Operand} (tys:List TypeId),(∀x∈l,RelV N S w (E x) (a.eval x))→RelL N S w (zA T E l tys) (l.map a.eval)
 |[],tys,_=>⟨by cases tys<;>rfl,fun i v hv=>by cases tys<;>simp[zA] at hv⟩
 |x::l,[],h=>relV_cons (h x (by simp)) (zA_rel [] fun y hy=>h y (by simp[hy]))
 |x::l,ty::tys,h=>relV_cons (z_rel _ (h x (by simp))) (zA_rel tys fun y hy=>h y (by simp[hy]))
theorem run_call {o:Oper} {c:Call} {E:Operand→V} {f:FuncId} {pre post:List V} (ho:o.op= .call c) (hc:calleeV E c=some (f,pre,post)) (hx:∀x∈o.op.operands.toList,RelV N S w (E x) (a.eval x))
  (hF:∃fn,P.funcs[f]?=some fn∧(fn.name== "runtime.NumGoroutine")=false∧fn.body.isNone=false):
  ∃us:List Value,RelL N S w (pre++zA T E c.args.toList c.argTypes.toList++post) us∧∀R:Value→World→Prop,(Calls P f us.toArray w fun e w'=>∃v,e= .returned v∧R v w')→OpOk P o a w R:=by
 obtain⟨fn,hf,hn,hb⟩:=hF
 have hn':¬fn.name= "runtime.NumGoroutine" :=by simpa using hn
 have hb':¬fn.body=none:=by intro e;rw[e] at hb;cases hb
 rw[ho] at hx
 have hargs:RelL N S w (zA T E c.args.toList c.argTypes.toList) (c.args.toList.map a.eval):=zA_rel _ fun x hx'=>hx x (by simp[Op.operands,Call.operands];exact .inr (by simpa using hx'))
 unfold calleeV at hc
 split at hc
 ·rename_i f' hcal
  cases hc
  refine⟨c.args.toList.map a.eval,by simpa using hargs,fun R h=>?_⟩
  have e:(c.args.toList.map a.eval).toArray=c.args.map a.eval:=by apply Array.ext';simp
  rw[e] at h
  refine opOk_enter (f:=f) (args:=c.args.map a.eval) ?_ h
  unfold execOp
  simp only[ho]
  simp[resolve,hcal,Act.eval,Deferred.ofValue,invoke,callFunc,hf,hn',hb']
 ·rename_i i hcal
  have hv:=hx (.tmp i) (by simp[Op.operands,Call.operands,hcal])
  have fin:∀(fst cap:Array Value),a.eval (.tmp i)= .func (.func f) fst cap→RelL N S w pre fst.toList→RelL N S w post cap.toList→
    ∃us:List Value,RelL N S w (pre++zA T E c.args.toList c.argTypes.toList++post) us∧∀R:Value→World→Prop,(Calls P f us.toArray w fun e w'=>∃v,e= .returned v∧R v w')→OpOk P o a w R:=by
   intro fst cap hu h1 h2
   refine⟨fst.toList++c.args.toList.map a.eval++cap.toList,relL_app (relL_app h1 hargs) h2,fun R h=>?_⟩
   have e:(fst.toList++c.args.toList.map a.eval++cap.toList).toArray=fst++(c.args.map a.eval++cap):=by
    apply Array.ext';simp
   rw[e] at h
   refine opOk_enter (f:=f) (args:=fst++(c.args.map a.eval++cap)) ?_ h
   unfold execOp
   simp only[ho]
   simp[resolve,hcal,hu,Deferred.ofValue,invoke,callFunc,hf,hn',hb']
  generalize hE:E (.tmp i)=v at hv hc
  generalize hu:a.eval (.tmp i)=u at hv
  split at hc
  ·cases hc
   cases hv
   have hcv:∀(xs:Array Value),RelL N S w (xs.toList.map .cv) xs.toList:=fun xs=>⟨by simp,fun i v hv=>by
    rw[List.getElem?_map,Option.map_eq_some_iff] at hv
    obtain⟨x,hx,rfl⟩:=hv
    rw[List.getD_eq_getElem?_getD,hx];exact .cv _⟩
   exact fin _ _ hu (hcv _) (hcv _)
  ·cases hc
   cases hv
   rename_i cs us vs hn2 hl hr
   refine fin us vs hu ⟨by simp;omega,fun i v hv=>?_⟩ ⟨by simp;omega,fun i v hv=>?_⟩
   ·rw[List.getElem?_take] at hv
    split at hv
    ·rename_i hlt
     have:=hr i v hv
     rw[getD_toList]
     simpa[Array.getD_eq_getD_getElem?,Array.getElem?_append,show i<us.size by omega] using this
    ·cases hv
   ·rw[List.getElem?_drop] at hv
    have:=hr _ v hv
    rw[getD_toList]
    simpa[Array.getD_eq_getD_getElem?,Array.getElem?_append,hn2,show¬(us.size+i<us.size) by omega] using this
  ·cases hc
 ·cases hc
end
end Go.Proofs.YtdccglkagfdooaaGreatDoor
