/- Texts joined by pack.py: XSxCm XSxCd XSxCe -/
import Derived.Test.YtjmabkpcahmnpaaGreatDoorRz14
import Derived.Maps.OwnSet
namespace Go.Proofs.YtjmabkpcahmnpaaGreatDoor
open Go.RowKit
def mapM (keys:List ByteArray):Main where
 ok:=fun w v us=>∃b ents clock,v= .map (some b)∧w.heap[b]?=some (.map ents clock)∧ents.toList.map (·.key)=keys.map Value.string∧ents.toList.map (·.val)=us∧keys.Nodup∧∀u∈us,u.oneCell'=true
 mono:=fun {w w' v us} hb ⟨b,ents,clock,h1,h2,h3⟩=>⟨b,ents,clock,h1,(hb b (by rw[h1];rfl)).trans h2,h3⟩
 one:=fun⟨b,ents,clock,h1,_⟩=>by rw[h1];rfl
abbrev mapC (es:List (ByteArray×Cl)):Asrt:=ctA (mapM (es.map (·.1))) (es.map (·.2))
def getE {α:Type}:List (ByteArray×α)→ByteArray→Option α
 |[],_=>none
 |(k,c)::l,x=>if k=x then some c else getE l x
def putE {α:Type}:List (ByteArray×α)→ByteArray→α→List (ByteArray×α)
 |[],x,c=>[(x,c)]
 |(k,d)::l,x,c=>if k=x then(x,c)::l else(k,d)::putE l x c
def delE {α:Type}:List (ByteArray×α)→ByteArray→List (ByteArray×α)
 |[],_=>[]
 |(k,d)::l,x=>if k=x then l else(k,d)::delE l x
theorem getE_none {α:Type}:∀{l:List (ByteArray×α)} {x:ByteArray},getE l x=none↔x∉l.map (·.1)
 |[],x=>by simp[getE]
 |(k,c)::l,x=>by
  unfold getE
  split
  ·rename_i h;subst h;simp
  ·rename_i h;rw[getE_none];simp[Ne.symm h]
theorem getE_some {α:Type}:∀{l:List (ByteArray×α)} {x:ByteArray} {c:α},getE l x=some c→∃l1 l2,l=l1++(x,c)::l2∧x∉l1.map (·.1)
 |[],x,c,h=>by simp[getE] at h
 |(k,d)::l,x,c,h=>by
  unfold getE at h
  split at h
  ·rename_i e;subst e;cases h;exact⟨[],l,rfl,by simp⟩
  ·rename_i e
   obtain⟨l1,l2,rfl,h2⟩:=getE_some h
   exact⟨(k,d)::l1,l2,rfl,by simp[Ne.symm e];simpa using h2⟩
theorem putE_new {α:Type}:∀{l:List (ByteArray×α)} {x:ByteArray} {c:α},x∉l.map (·.1)→putE l x c=l++[(x,c)]
 |[],x,c,_=>rfl
 |(k,d)::l,x,c,h=>by
  simp only[List.map_cons,List.mem_cons,not_or] at h
  unfold putE
  rw[if_neg (Ne.symm h.1),putE_new h.2];rfl
theorem putE_old {α:Type} {x:ByteArray} {c d:α} {l2:List (ByteArray×α)}:∀{l1:List (ByteArray×α)},x∉l1.map (·.1)→putE (l1++(x,d)::l2) x c=l1++(x,c)::l2
 |[],_=>by simp[putE]
 |(k,d')::l,h=>by
  simp only[List.map_cons,List.mem_cons,not_or] at h
  simp only[List.cons_append,putE]
  rw[if_neg (Ne.symm h.1),putE_old h.2]
theorem delE_old {α:Type} {x:ByteArray} {d:α} {l2:List (ByteArray×α)}:∀{l1:List (ByteArray×α)},x∉l1.map (·.1)→delE (l1++(x,d)::l2) x=l1++l2
 |[],_=>by simp[delE]
 |(k,d')::l,h=>by
  simp only[List.map_cons,List.mem_cons,not_or] at h
  simp only[List.cons_append,delE]
  rw[if_neg (Ne.symm h.1),delE_old h.2]
theorem delE_new {α:Type}:∀{l:List (ByteArray×α)} {x:ByteArray},x∉l.map (·.1)→delE l x=l
 |[],x,_=>rfl
 |(k,d)::l,x,h=>by
  simp only[List.map_cons,List.mem_cons,not_or] at h
  unfold delE
  rw[if_neg (Ne.symm h.1),delE_new h.2]
section
variable {P:Program} {T:Tab} {B:Fr} {w0:World} {N:Names} {S:Sets} {t:List V} {m:List (Option Bk)} {a:Act} {w:World}
theorem find_str (w:World) {k:TypeId} (hk:P.underlying k=some .string) (s:ByteArray) (l:List MapEntry) {keys:List ByteArray} (hl:l.map (·.key)=keys.map Value.string):
  ((Instr.findKey k (.string s) l).run P w= .ok none w∧s∉keys)∨∃j e,(Instr.findKey k (.string s) l).run P w= .ok (some (j,e.val)) w∧l[j]?=some e∧e.key= .string s∧keys[j]?=some s:=by
 have hks:∀x∈l,MapKept.IsKey .string x.key:=fun x hx=>by
  have:x.key∈l.map (·.key):=List.mem_map_of_mem hx
  rw[hl] at this
  obtain⟨s',_,h⟩:=List.mem_map.1 this
  rw[←h];trivial
 rcases MapKept.findNow_spec (d:= .string) (k:= .string s) trivial l 0 hks with⟨h1,h2⟩|⟨j,e0,h1,h2,h3⟩
 ·refine .inl ⟨MapKept.run_findKey hk h1,fun hs=>?_⟩
  have:Value.string s∈keys.map Value.string:=List.mem_map_of_mem hs
  rw[←hl] at this
  obtain⟨x,hx,he⟩:=List.mem_map.1 this
  exact h2 x hx he
 ·refine .inr ⟨j,e0,by simpa using MapKept.run_findKey hk h1,h2,h3,?_⟩
  have:(l.map (·.key))[j]?=some e0.key:=by simp[h2]
  rw[hl,List.getElem?_map,h3] at this
  cases hkj:keys[j]? with
  |none=>rw[hkj] at this;cases this
  |some s'=>rw[hkj] at this;simp at this;rw[this]
theorem check_str (w:World) {k:TypeId} (hk:P.underlying k=some .string) (s:ByteArray) (e:Bool):(Instr.checkKey e 10000 k (.string s)).run P w= .ok () w:=MapKept.run_checkKey (k:= .string s) hk trivial e 9999
theorem mapC_val (hs:Sat B w0 N S t m a w) {n k:Nat} {es:List (ByteArray×Cl)} {outs:List V} (hm:m[n]?=some (some (.asr k (mapC es) outs))):
  ∃b ents clock own uo,N n=some (k,.agg (.map (some b)::own).toArray)∧w.heap[b]?=some (.map ents clock)∧ents.toList.map (·.key)=(es.map (·.1)).map Value.string∧(es.map (·.1)).Nodup∧RelL N S w outs uo∧(∀u∈ents.toList.map (·.val),u.oneCell'=true)∧
   Cells (S false) w uo (es.map (·.2)) (ents.toList.map (·.val)) own∧Dj (.map (some b)::own):=by
 obtain⟨main,us,own,uo,h1,h2,⟨b,ents,clock,rfl,e1,e2,rfl,e3,e4⟩,h4,h5⟩:=ct_val hs hm
 exact⟨b,ents,clock,own,uo,h1,e1,e2,e3,h2,e4,h4,h5⟩
theorem map_ref {n k b:Nat} {own:List Value} (h1:N n=some (k,.agg (.map (some b)::own).toArray)) {u:Value} (h:RelV N S w (.ow n k) u):u= .map (some b):=by
 have:=ow_of h1 h
 rwa [agg_hdv] at this
theorem getE_at {es:List (ByteArray×Cl)} {s:ByteArray} {j:Nat} (hd:(es.map (·.1)).Nodup) (hj:(es.map (·.1))[j]?=some s):∃c,getE es s=some c∧es[j]?=some (s,c):=by
 rw[List.getElem?_map,Option.map_eq_some_iff] at hj
 obtain⟨⟨s',c⟩,h1,rfl⟩:=hj
 refine⟨c,?_,h1⟩
 cases hg:getE es s' with
 |none=>exact absurd (List.mem_map_of_mem (f:=(·.1)) (List.mem_of_getElem? h1)) (getE_none.1 hg)
 |some c'=>
  obtain⟨l1,l2,rfl,h3⟩:=getE_some hg
  congr 1
  rw[List.map_append,List.map_cons] at hd
  have hd2:s' ∉l2.map (·.1):=fun h=>(List.nodup_cons.1 (List.nodup_append.1 hd).2.1).1 h
  rw[List.getElem?_append] at h1
  split at h1
  ·exact absurd (List.mem_map_of_mem (f:=(·.1)) (List.mem_of_getElem? h1)) h3
  ·cases hq:j - l1.length with
   |zero=>rw[hq] at h1;simp at h1;exact h1
   |succ q=>
    rw[hq] at h1
    simp at h1
    exact absurd (List.mem_map_of_mem (f:=(·.1)) (List.mem_of_getElem? h1)) hd2
theorem rd_look {o:Oper} {E:Operand→V} {ty key e n k:Nat} {x i:Operand} {ok:Bool} {s:ByteArray} {es:List (ByteArray×Cl)} {outs:List V} {z:Value} (ho:o.op= .lookup ty x i ok)
  (hty:P.underlying ty=some (.map key e)) (hk:P.underlying key=some .string) (hz:(P.info? e).bind (·.zero)=some z)
  (hx:E x= .ow n k) (hi:E i= .cv (.string s)) (hm:m[n]?=some (some (.asr k (mapC es) outs))) {v:V}
  (hv:v=match ok,getE es s with|true,some c=> .tu [c.v outs,.cv (.bool true)]|true,none=> .tu [.cv z,.cv (.bool false)]|false,some c=>c.v outs|false,none=> .cv z):OpRd P o E m v:=by
 intro B w0 N S t m2 a w hs hup hr
 have hm2:=hup n _ hm
 obtain⟨b,ents,clock,own,uo,h1,h2,h3,h4,h5,h6,h7,h8⟩:=mapC_val hs hm2
 have hx':=hr x (by rw[ho];simp[Op.operands])
 have hi':=hr i (by rw[ho];simp[Op.operands])
 rw[hx] at hx';rw[hi] at hi'
 generalize hu:a.eval x=u at hx'
 generalize hv':a.eval i=v' at hi'
 cases hi'
 have:=map_ref h1 hx'
 subst this
 have hzr:∀w,(zeroValue e).run P w= .ok z w:=fun w=>by
  cases hi:P.info? e with
  |none=>rw[hi] at hz;cases hz
  |some ti=>rw[hi] at hz;simp only[Option.bind_some] at hz;simp[zeroValue,typeInfo,hi,hz]
 have run:∀{r:Value} {v1:V},(Instr.lookup ty (.map (some b)) (.string s) ok).run P w= .ok r w→RelV N S w v1 r→v=v1→OpOk P o a w fun u w'=>w'=w∧RelV N S w v u:=by
  intro r v1 hrun hrel hvv
  subst hvv
  refine opOk_val (u:=r) (w':=w) ?_ ⟨rfl,hrel⟩
  unfold execOp
  simp only[ho]
  refine run_v ?_
  rw[hu,hv']
  exact hrun
 have tup:∀{v1:V} {r:Value} {bb:Bool},RelV N S w v1 r→RelV N S w (.tu [v1,.cv (.bool bb)]) (.tuple #[r,.bool bb]):=by
  intro v1 r bb h
  refine .tu _ _ rfl fun i v hv=>?_
  match i with
  |0=>simp at hv;subst hv;exact h
  |1=>simp at hv;subst hv;exact .cv _
  |i+2=>simp at hv
 rcases find_str (P:=P) w hk s ents.toList h3 with⟨f1,f2⟩|⟨j,e0,f1,f2,f3,f4⟩
 ·have hg:getE es s=none:=getE_none.2 f2
  cases ok
  ·refine run (r:=z) ?_ (.cv _) (by rw[hv,hg])
   simp[Instr.lookup,run_underlying hty,MapKept.run_getObj_map h2,check_str w hk,f1,hzr,Result.andThen]
  ·refine run (r:= .tuple #[z,.bool false]) ?_ (tup (.cv _)) (by rw[hv,hg])
   simp[Instr.lookup,run_underlying hty,MapKept.run_getObj_map h2,check_str w hk,f1,hzr,Result.andThen]
 ·obtain⟨c,g1,g2⟩:=getE_at h4 f4
  obtain⟨u,g3,g4⟩:=h7.at h5 (p:=j) (c:=c) (by simp[g2])
  have hu0:u=e0.val:=by simpa[f2] using g3.symm
  subst hu0
  cases ok
  ·refine run (r:=e0.val) ?_ g4 (by rw[hv,g1])
   simp[Instr.lookup,run_underlying hty,MapKept.run_getObj_map h2,check_str w hk,f1,Result.andThen]
  ·refine run (r:= .tuple #[e0.val,.bool true]) ?_ (tup g4) (by rw[hv,g1])
   simp[Instr.lookup,run_underlying hty,MapKept.run_getObj_map h2,check_str w hk,f1,Result.andThen]
theorem rd_map_len {o:Oper} {E:Operand→V} {ty key e n k:Nat} {x:Operand} {es:List (ByteArray×Cl)} {outs:List V} (ho:o.op= .call {callee:= .builtin .len,args:= #[x],argTypes:= #[ty]}) (hty:P.underlying ty=some (.map key e))
  (hx:E x= .ow n k) (hm:m[n]?=some (some (.asr k (mapC es) outs))):OpRd P o E m (.cv (.int .i64 ((es.length:Nat):Int))):=by
 intro B w0 N S t m2 a w hs hup hr
 have hm2:=hup n _ hm
 obtain⟨b,ents,clock,own,uo,h1,h2,h3,_⟩:=mapC_val hs hm2
 have hx':=hr x (by rw[ho];simp[Op.operands,Call.operands])
 rw[hx] at hx'
 have hu:=map_ref h1 hx'
 have hl:ents.size=es.length:=by
  have:=congrArg List.length h3
  simpa using this
 refine opOk_val (u:= .int .i64 ((es.length:Nat):Int)) (w':=w) ?_ ⟨rfl,.cv _⟩
 unfold execOp
 simp only[ho]
 simp[resolve,invoke,builtin,hu,Builtin.len_,run_underlying hty,MapKept.run_getObj_map h2,goInt,hl]
theorem eqIn_map_nil (w:World) (d t key e b:Nat) (h:P.underlying t=some (.map key e)):(Op.equalIn (d+1) t (.map (some b)) (.map none)).run P w= .ok false w:=by
 simp[Op.equalIn,run_underlying h]
theorem rd_map_nil {o:Oper} {E:Operand→V} {ty key e n k:Nat} {op:BinOp} {x y:Operand} {es:List (ByteArray×Cl)} {outs:List V} {yt:Nat} {bb:Bool} (ho:o.op= .binOp op ty x y yt) (hty:P.underlying ty=some (.map key e))
  (hop:(op= .eql∧bb=false)∨(op= .neq∧bb=true)) (hx:E x= .ow n k) (hy:E y= .cv (.map none)) (hm:m[n]?=some (some (.asr k (mapC es) outs))):OpRd P o E m (.cv (.bool bb)):=by
 intro B w0 N S t m2 a w hs hup hr
 have hm2:=hup n _ hm
 obtain⟨b,ents,clock,own,uo,h1,_⟩:=mapC_val hs hm2
 have hx':=hr x (by rw[ho];simp[Op.operands])
 have hy':=hr y (by rw[ho];simp[Op.operands])
 rw[hx] at hx';rw[hy] at hy'
 have hu:=map_ref h1 hx'
 generalize hv':a.eval y=v' at hy'
 cases hy'
 have heq:(Op.equal ty (.map (some b)) (.map none)).run P w= .ok false w:=eqIn_map_nil w 9999 ty key e b hty
 refine opOk_val (u:= .bool bb) (w':=w) ?_ ⟨rfl,.cv _⟩
 unfold execOp
 simp only[ho]
 rw[hu,hv']
 rcases hop with⟨rfl,rfl⟩|⟨rfl,rfl⟩
 ·simp[eqGuard,binOp,heq]
 ·simp[eqGuard,binOp,heq]
end
end Go.Proofs.YtjmabkpcahmnpaaGreatDoor
namespace Go.Proofs.YtjmabkpcahmnpaaGreatDoor
open Go.RowKit
section
variable {P:Program} {T:Tab} {B:Fr} {w0:World} {N:Names} {S:Sets} {t:List V} {m:List (Option Bk)} {a:Act} {w:World}
theorem Sat.ct (hs:Sat B w0 N S t m a w) {n k:Nat} {main main':Value} {own own':List Value} {uo:List Value} {outs:List V} {M':Main} {cs':List Cl} {us':List Value} {w':World} {A0:Asrt} {outs0:List V} (hm:m[n]?=some (some (.asr k A0 outs0)))
  (h1:N n=some (k,.agg (main::own).toArray)) (ho:RelL N S w outs uo) (hmain:main'=main) (low:Low B.keep B.ref w') (hsz:w.heap.size≤w'.heap.size)
  (hkeep:∀g,at1 main≠some g→w'.heap[g]?=w.heap[g]?) (hM:M'.ok w' main us') (hown:own'.Sublist own) (hdj:Dj (main::own))
  (hC:(∀g,S false g→w'.heap[g]?=w.heap[g]?)→(∀u∈own',∀g,at1 u=some g→w'.heap[g]?=w.heap[g]?)→Cells (S false) w' uo cs' us' own'):
  ∃N',Sat B w0 N' S t (m.set n (some (.asr k (ctA M' cs') outs))) a w'∧∀v u,RelV N S w v u→RelV N' S w' v u:=by
 subst hmain
 have hnl:=lt_of_get hm
 have hsub:∀u∈main'::own',u∈main'::own:=fun u hu=>by
  rcases List.mem_cons.1 hu with rfl|h
  ·simp
  ·exact List.mem_cons_of_mem _ (hown.subset h)
 have hdj':Dj (main'::own'):=List.Pairwise.sublist (List.Sublist.cons_cons _ hown) hdj
 have hrow:∀u∈own',∀g,at1 u=some g→w'.heap[g]?=w.heap[g]?:=fun u hu g hg=>hkeep g fun e=>(List.pairwise_cons.1 hdj').1 u hu g e hg
 have hS:∀g,S false g→w'.heap[g]?=w.heap[g]?:=fun g hg=>hkeep g fun e=>(hs.data false g hg).2 n _ _ h1 (at_ct.2 ⟨main',by simp,e⟩)
 have hC':=hC hS hrow
 obtain⟨N',g1,g2,g3⟩:=hs.set (w':=w') (d:=n) (k:=k) (v:= .agg (main'::own').toArray) (b:= .asr k (ctA M' cs') outs) hnl
  (fun k0 v0 h=>by rw[h1] at h;cases h;exact .inr (.inr ⟨_,_,rfl,rfl,.inr ⟨rfl,by simp⟩⟩)) low hsz
  (fun g _ hk=>hkeep g fun e=>hk _ _ h1 (at_ct.2 ⟨main',by simp,e⟩))
  (fun g hg=>by
   obtain⟨u,hu,e⟩:=at_ct.1 hg
   have:At (.agg (main'::own).toArray) g:=at_ct.2 ⟨u,hsub u hu,e⟩
   exact⟨Nat.lt_of_lt_of_le (hs.own n _ _ g h1 this).2 hsz,.inr ⟨_,_,h1,this⟩⟩)
  (fun N' e1 e2 e3=>⟨_,uo,e1,⟨ho.1,fun i v hv=>e2 _ _ (ho.2 i v hv)⟩,main',us',own',rfl,hM,hC',hdj'⟩)
 exact⟨N',g3,g2⟩
theorem Sat.ctr (hs:Sat B w0 N S t m a w) {n k d kd E sz:Nat} {f:Bool} {xs:List (List D)} {main ud:Value} {own own':List Value} {uo:List Value} {outs:List V} {M':Main} {cs':List Cl} {us':List Value} {w':World} {A0:Asrt} {outs0:List V} (hm:m[n]?=some (some (.asr k A0 outs0)))
  (hd:m[d]?=some (some (.row kd E sz f xs))) (hNd0:N d=some (kd,ud))
  (h1:N n=some (k,.agg (main::own).toArray)) (ho:RelL N S w outs uo) (low:Low B.keep B.ref w') (hsz:w.heap.size≤w'.heap.size)
  (hkeep:∀g,at1 main≠some g→w'.heap[g]?=w.heap[g]?) (hM:M'.ok w' main us') (hown:∃own0,own0.Sublist own∧own'.Perm (ud::own0)) (hdj:Dj (main::own))
  (hC:(∀g,S false g→w'.heap[g]?=w.heap[g]?)→(∀u∈own',∀g,at1 u=some g→w'.heap[g]?=w.heap[g]?)→Cells (S false) w' uo cs' us' own'):
  ∃N',Sat B w0 N' S t ((m.set n (some (.asr k (ctA M' cs') outs))).set d (some (.row (kd+1) E sz true []))) a w'∧∀v u,RelV N S w v u→RelV N' S w' v u:=by
 have hnd:n≠d:=by rintro rfl;rw[hm] at hd;cases hd
 have hnl:=lt_of_get hm
 have hdl:=lt_of_get hd
 obtain⟨own0,hown,hperm⟩:=hown
 obtain⟨u0,hu0,hrow0⟩:=row_val hs hd
 rw[hNd0] at hu0;cases hu0
 obtain⟨A,cp,hu⟩:=hrow0.slice
 have hud:∀v∈main::own,∀g,at1 ud=some g→at1 v=some g→False:=fun v hv g e1 e2=>by
  have:=hs.apart d n _ _ _ _ g hNd0 h1 (by rw[hu];rw[hu] at e1;exact e1) (at_ct.2 ⟨v,hv,e2⟩)
  exact hnd this.symm
 have hdj0:Dj (main::own0):=List.Pairwise.sublist (List.Sublist.cons_cons _ hown) hdj
 have hsub0:∀u∈main::own0,u∈main::own:=fun u hu=>by
  rcases List.mem_cons.1 hu with rfl|h
  ·simp
  ·exact List.mem_cons_of_mem _ (hown.subset h)
 have hdj':Dj (main::own'):=by
  have h3:Dj (ud::main::own0):=List.pairwise_cons.2 ⟨fun v hv g e1 e2=>hud v (hsub0 v hv) g e1 e2,hdj0⟩
  exact h3.perm ((List.Perm.swap ..).trans (List.Perm.cons _ hperm.symm))
 have hmem:∀u∈main::own',u=ud∨u∈main::own:=fun u hu=>by
  rcases List.mem_cons.1 hu with rfl|h
  ·simp
  ·rcases List.mem_cons.1 (hperm.mem_iff.1 h) with rfl|h
   ·exact .inl rfl
   ·exact .inr (List.mem_cons_of_mem _ (hown.subset h))
 have hrow:∀u∈own',∀g,at1 u=some g→w'.heap[g]?=w.heap[g]?:=fun u hu g hg=>hkeep g fun e=>(List.pairwise_cons.1 hdj').1 u hu g e hg
 have hS:∀g,S false g→w'.heap[g]?=w.heap[g]?:=fun g hg=>hkeep g fun e=>(hs.data false g hg).2 n _ _ h1 (at_ct.2 ⟨main,by simp,e⟩)
 have hC':=hC hS hrow
 let N':Names:=fun j=>if j=n then some (k,.agg (main::own').toArray) else if j=d then some (kd+1,.slice none 0 0) else N j
 have hNn:N' n=some (k,.agg (main::own').toArray):=by simp[N']
 have hNd:N' d=some (kd+1,.slice none 0 0):=by simp[N',Ne.symm hnd]
 have hNo:∀j,¬(j=n∨j=d)→N' j=N j:=fun j hj=>by simp only[not_or] at hj;simp[N',hj.1,hj.2]
 have hNN:NLe N N':=by
  intro j x v h
  by_cases hj:j=n
  ·subst hj
   rw[h1] at h;cases h
   exact .inr (.inr ⟨_,_,k,rfl,hNn,.inr ⟨rfl,by simp⟩⟩)
  ·by_cases hj':j=d
   ·subst hj';rw[hNd0] at h;cases h
    exact .inr (.inl ⟨⟨_,_,_,hu⟩,_,_,hNd,by omega⟩)
   ·exact .inl ((hNo j (by simp[hj,hj'])).trans h)
 have hd0:∀g,at1 (.slice none 0 0)=some g→False:=fun g h=>by cases h
 have main_:=hs.chg (w':=w') (N':=N') (m':=(m.set n (some (.asr k (ctA M' cs') outs))).set d (some (.row (kd+1) E sz true []))) (fun j=>j=n∨j=d) hNN hNo
  (fun j hj=>by simp only[not_or] at hj;rw[List.getElem?_set_ne (Ne.symm hj.2),List.getElem?_set_ne (Ne.symm hj.1)]) low hsz
  (fun g _ hk=>hkeep g fun e=>hk n _ _ (.inl rfl) h1 (at_ct.2 ⟨main,by simp,e⟩))
  (fun j x v g hj hv hg=>by
   rcases hj with rfl|rfl
   ·rw[hNn] at hv;cases hv
    obtain⟨v',hv',hg'⟩:=at_ct.1 hg
    rcases hmem v' hv' with rfl|h
    ·have hA:At v' g:=by rw[hu];rw[hu] at hg';exact hg'
     exact⟨Nat.lt_of_lt_of_le (hs.own d _ _ g hNd0 hA).2 hsz,.inr ⟨d,_,_,.inr rfl,hNd0,hA⟩⟩
    ·have hA:=at_ct.2 ⟨v',h,hg'⟩
     exact⟨Nat.lt_of_lt_of_le (hs.own _ _ _ g h1 hA).2 hsz,.inr ⟨_,_,_,.inl rfl,h1,hA⟩⟩
   ·rw[hNd] at hv;cases hv
    exact(hd0 g hg).elim)
  (fun j j' x x' v v' g hj hj' hv hv' hg hg'=>by
   rcases hj with rfl|rfl<;>rcases hj' with rfl|rfl
   ·rfl
   ·rw[hNd] at hv';cases hv';exact(hd0 g hg').elim
   ·rw[hNd] at hv;cases hv;exact(hd0 g hg).elim
   ·rfl)
  (fun j hj hb=>by
   rcases hj with rfl|rfl
   ·exact absurd (by rw[List.getElem?_set_ne (Ne.symm hnd),List.getElem?_set_self hnl]) (hb _)
   ·exact absurd (by rw[List.getElem?_set_self (by simpa using hdl)]) (hb _))
  (fun j og hj hst=>by
   rcases hj with rfl|rfl
   ·exact⟨_,_,hNn,.inl ⟨_,rfl⟩⟩
   ·exact⟨_,_,hNd,.inr fun g hg=>(hd0 g hg).elim⟩)
  (fun j b hj hb hrel hrd hdat=>by
   rcases hj with rfl|rfl
   ·rw[List.getElem?_set_ne (Ne.symm hnd),List.getElem?_set_self hnl] at hb
    cases hb
    exact⟨_,uo,hNn,⟨ho.1,fun i v hv=>hrel _ _ (ho.2 i v hv)⟩,main,us',own',rfl,hM,hC',hdj'⟩
   ·rw[List.getElem?_set_self (by simpa using hdl)] at hb
    cases hb
    obtain⟨us',e1,e2,e3,e4⟩:=hrow0
    exact⟨.slice none 0 0,[],hNd,⟨by simp,.inl ⟨rfl,rfl⟩⟩,by simp,e3,fun i j d hd=>by simp at hd,fun _ g hg=>(hd0 g hg).elim⟩)
 exact⟨N',main_.1,main_.2⟩
theorem low_block (hs:Sat B w0 N S t m a w) {n k b:Nat} {own:List Value} {ents ents':Array MapEntry} {clock clock':Nat} (h1:N n=some (k,.agg (.map (some b)::own).toArray)) (hb:w.heap[b]?=some (.map ents clock)):
  Low B.keep B.ref (Go.ChangeMaps.setBlock w b (.map ents' clock'))∧w.heap.size≤(Go.ChangeMaps.setBlock w b (.map ents' clock')).heap.size∧(∀g,at1 (.map (some b))≠some g→(Go.ChangeMaps.setBlock w b (.map ents' clock')).heap[g]?=w.heap[g]?)∧(Go.ChangeMaps.setBlock w b (.map ents' clock')).heap[b]?=some (.map ents' clock'):=by
 have hne:∀g,at1 (.map (some b))≠some g→(Go.ChangeMaps.setBlock w b (.map ents' clock')).heap[g]?=w.heap[g]?:=fun g hg=>Go.ChangeMaps.heap_setBlock_other hb _ fun e=>hg (by rw[e];rfl)
 have hsz:w.heap.size≤(Go.ChangeMaps.setBlock w b (.map ents' clock')).heap.size:=by simp[Go.ChangeMaps.setBlock]
 refine⟨hs.low.trans ⟨rfl,rfl,rfl,hsz,fun g hg=>hne g fun e=>?_⟩,hsz,hne,Go.ChangeMaps.heap_setBlock_same hb _⟩
 cases e
 exact(hs.own n _ _ b h1 (at_ct.2 ⟨.map (some b),by simp,rfl⟩)).1 hg
theorem upd_run {key:Nat} (hk:P.underlying key=some .string) {ty e b:Nat} {s:ByteArray} {es:List (ByteArray×Cl)} {ents:Array MapEntry} {clock:Nat} (hty:P.underlying ty=some (.map key e)) (hb:w.heap[b]?=some (.map ents clock)) (hke:ents.toList.map (·.key)=(es.map (·.1)).map Value.string) (hnd:(es.map (·.1)).Nodup) (val:Value) (c:Cl):
  ∃ents' clock',(Instr.mapUpdate ty (.map (some b)) (.string s) val).run P w= .ok () (Go.ChangeMaps.setBlock w b (.map ents' clock'))∧ents'.toList.map (·.key)=((putE es s c).map (·.1)).map Value.string∧((putE es s c).map (·.1)).Nodup∧
   ((s∉es.map (·.1)∧(putE es s c).map (·.2)=es.map (·.2)++[c]∧ents'.toList.map (·.val)=ents.toList.map (·.val)++[val])∨
    ∃c0 cs1 cs2 us1 u us2,getE es s=some c0∧es.map (·.2)=cs1++c0::cs2∧(putE es s c).map (·.2)=cs1++c::cs2∧ents.toList.map (·.val)=us1++u::us2∧ents'.toList.map (·.val)=us1++val::us2∧cs1.length=us1.length):=by
 rcases find_str (P:=P) w hk s ents.toList hke with⟨f1,f2⟩|⟨j,e0,f1,f2,f3,f4⟩
 ·refine⟨ents.push ⟨.string s,val,clock⟩,clock+1,?_,?_,?_,.inl ⟨f2,?_,?_⟩⟩
  ·simp[Instr.mapUpdate,run_underlying hty,MapKept.run_getObj_map hb,check_str w hk,f1,MapKept.run_setObj_map _ hb,Result.andThen,Go.ChangeMaps.setBlock]
  ·rw[putE_new f2];simp[hke]
  ·rw[putE_new f2]
   simp only[List.map_append,List.map_cons,List.map_nil]
   exact List.nodup_append.2 ⟨hnd,by simp,fun a ha b hb=>by simp at hb;subst hb;rintro rfl;exact f2 ha⟩
  ·rw[putE_new f2];simp
  ·simp
 ·obtain⟨c0,g1,g2⟩:=getE_at hnd f4
  obtain⟨l1,l2,rfl,g3⟩:=getE_some g1
  have hj:j=l1.length:=by
   have h1:(List.map (·.1) (l1++(s,c0)::l2))[l1.length]?=some s:=by simp
   exact(List.getElem?_inj (by have:=lt_of_get f4;simpa using this) hnd).1 (f4.trans h1.symm)
  subst hj
  have hjl:l1.length<ents.toList.length:=lt_of_get f2
  have hent:ents[l1.length]?=some e0:=by simpa using f2
  have hmod:(ents.modify l1.length (fun e'=>{e' with key:= .string s,val:=val})).toList=ents.toList.take l1.length++{e0 with key:= .string s,val:=val}::ents.toList.drop (l1.length+1):=by
   rw[Array.toList_modify,List.modify_eq_take_cons_drop hjl]
   congr 2
   have:ents.toList[l1.length]=e0:=(List.getElem?_eq_some_iff.1 f2).2
   rw[this]
  have hsplit:ents.toList=ents.toList.take l1.length++e0::ents.toList.drop (l1.length+1):=by
   have:ents.toList[l1.length]=e0:=(List.getElem?_eq_some_iff.1 f2).2
   rw[←this,List.getElem_cons_drop,List.take_append_drop]
  refine⟨ents.modify l1.length (fun e'=>{e' with key:= .string s,val:=val}),clock,?_,?_,?_,.inr ⟨c0,l1.map (·.2),l2.map (·.2),(ents.toList.take l1.length).map (·.val),e0.val,(ents.toList.drop (l1.length+1)).map (·.val),g1,by simp,by rw[putE_old g3];simp,?_,?_,?_⟩⟩
  ·have hst:(Instr.keyThatStays (.string s) (.string s)).run P w= .ok (.string s) w:=MapKept.run_keyThatStays (d:= .string) trivial
   simp[Instr.mapUpdate,run_underlying hty,MapKept.run_getObj_map hb,check_str w hk,f1,hent,f3,hst,MapKept.run_setObj_map _ hb,Result.andThen,Go.ChangeMaps.setBlock]
  ·rw[putE_old g3,hmod]
   rw[hsplit] at hke
   have hl:(ents.toList.take l1.length).length=l1.length:=by rw[List.length_take];omega
   simp only[List.map_append,List.map_cons] at hke⊢
   have:=List.append_inj hke (by rw[List.length_map,hl];simp)
   rw[this.1]
   have h2:=this.2
   simp only[List.cons.injEq] at h2
   rw[h2.2]
  ·rw[putE_old g3];simpa using hnd
  ·conv=>lhs;rw[hsplit]
   simp
  ·rw[hmod];simp
  ·simp;exact(Nat.min_eq_left (Nat.le_of_lt (by simpa using hjl))).symm
theorem ot_putD {o:Oper} {E:Operand→V} {ty key e n k:Nat} {x i y:Operand} {s:ByteArray} {es:List (ByteArray×Cl)} {outs:List V} {d:D} {f:Bool} (ho:o.op= .mapUpdate ty x i y∨o.op= .insert ty x i y)
  (hty:P.underlying ty=some (.map key e)) (hk:P.underlying key=some .string)
  (hx:E x= .ow n k) (hi:E i= .cv (.string s)) (hy:(E y).d=some (d,f)) (hm:m[n]?=some (some (.asr k (mapC es) outs))):OpTr P o E m .un (m.set n (some (.asr k (mapC (putE es s (.d d))) outs))):=by
 intro B w0 N S t a w hs hr
 obtain⟨b,ents,clock,own,uo,h1,h2,h3,h4,h5,h6,h7,h8⟩:=mapC_val hs hm
 have hx':=hr x (by rcases ho with h|h<;>rw[h]<;>simp[Op.operands])
 have hi':=hr i (by rcases ho with h|h<;>rw[h]<;>simp[Op.operands])
 have hy':=hr y (by rcases ho with h|h<;>rw[h]<;>simp[Op.operands])
 rw[hx] at hx';rw[hi] at hi'
 generalize hu:a.eval x=u at hx'
 generalize hv':a.eval i=v' at hi'
 generalize hvy:a.eval y=vy at hy'
 cases hi'
 have:=map_ref h1 hx'
 subst this
 have hd:RelD (S false) w d vy:=RelD.ofV (fun b hb=>(hs.fresh b hb).1) hy' hy (fun h=>by cases h)
 obtain⟨ents',clock',hrun,e1,e2,e3⟩:=upd_run (P:=P) (w:=w) hk (s:=s) hty h2 h3 h4 vy (.d d)
 obtain⟨l1,l2,l3,l4⟩:=low_block hs (ents':=ents') (clock':=clock') h1 h2
 have hone:∀u∈ents'.toList.map (·.val),u.oneCell'=true:=by
  rcases e3 with⟨_,_,q3⟩|⟨c0,cs1,cs2,us1,u,us2,_,_,_,q4,q5,_⟩
  ·rw[q3];simp only[List.mem_append,List.mem_singleton];rintro u (h|rfl)<;>first|exact h6 u h|exact hd.one
  ·rw[q5];rw[q4] at h6
   simp only[List.mem_append,List.mem_cons] at h6⊢
   rintro v (h|rfl|h)<;>first|exact h6 v (.inl h)|exact hd.one|exact h6 v (.inr (.inr h))
 have hfin:∃own',own'.Sublist own∧((∀g,S false g→(Go.ChangeMaps.setBlock w b (.map ents' clock')).heap[g]?=w.heap[g]?)→(∀u∈own',∀g,at1 u=some g→(Go.ChangeMaps.setBlock w b (.map ents' clock')).heap[g]?=w.heap[g]?)→
   Cells (S false) (Go.ChangeMaps.setBlock w b (.map ents' clock')) uo ((putE es s (.d d)).map (·.2)) (ents'.toList.map (·.val)) own'):=by
  rcases e3 with⟨_,q2,q3⟩|⟨c0,cs1,cs2,us1,u,us2,_,q2,q3,q4,q5,q6⟩
  ·refine⟨own,List.Sublist.refl _,fun hS hO=>?_⟩
   rw[q2,q3]
   have:=(h7.mono (fun _ h=>h) hS hO).app (.d (hd.mono (fun _ h=>h) hS) .nil)
   simpa using this
  ·rw[q2,q4] at h7
   obtain⟨v1,v2,ow1,ow2,r1,rfl,c1,c2⟩:=h7.unapp
   have:=List.append_inj r1 (by rw[←q6,c1.len])
   obtain⟨rfl,rfl⟩:=this
   obtain⟨ow3,hsub,c3⟩:=c2.tl
   refine⟨ow1++ow3,List.Sublist.append (List.Sublist.refl _) hsub,fun hS hO=>?_⟩
   rw[q3,q5]
   exact(c1.mono (fun _ h=>h) hS fun u hu=>hO u (by simp[hu])).app (.d (hd.mono (fun _ h=>h) hS) (c3.mono (fun _ h=>h) hS fun u hu=>hO u (by simp[hu])))
 obtain⟨own',p1,p2⟩:=hfin
 obtain⟨N',g1,g2⟩:=hs.ct (M':=mapM ((putE es s (.d d)).map (·.1))) (cs':=(putE es s (.d d)).map (·.2)) hm h1 h5 rfl l1 l2 l3 ⟨b,ents',clock',rfl,l4,e1,rfl,e2,hone⟩ p1 h8 p2
 refine opOk_skip (w':=Go.ChangeMaps.setBlock w b (.map ents' clock')) ?_ ⟨N',S,g1,.un _⟩
 unfold execOp
 rcases ho with ho|ho<;>(simp only[ho];refine run_u ?_;rw[hu,hv',hvy];exact hrun)
theorem ot_updD {o:Oper} {E:Operand→V} {ty key e n k:Nat} {x i y:Operand} {s:ByteArray} {es:List (ByteArray×Cl)} {outs:List V} {d:D} {f:Bool} (ho:o.op= .mapUpdate ty x i y)
  (hty:P.underlying ty=some (.map key e)) (hk:P.underlying key=some .string)
  (hx:E x= .ow n k) (hi:E i= .cv (.string s)) (hy:(E y).d=some (d,f)) (hm:m[n]?=some (some (.asr k (mapC es) outs))):OpTr P o E m .un (m.set n (some (.asr k (mapC (putE es s (.d d))) outs))):=
 ot_putD (.inl ho) hty hk hx hi hy hm
theorem ot_insD {o:Oper} {E:Operand→V} {ty key e n k:Nat} {x i y:Operand} {s:ByteArray} {es:List (ByteArray×Cl)} {outs:List V} {d:D} {f:Bool} (ho:o.op= .insert ty x i y)
  (hty:P.underlying ty=some (.map key e)) (hk:P.underlying key=some .string)
  (hx:E x= .ow n k) (hi:E i= .cv (.string s)) (hy:(E y).d=some (d,f)) (hm:m[n]?=some (some (.asr k (mapC es) outs))):OpTr P o E m .un (m.set n (some (.asr k (mapC (putE es s (.d d))) outs))):=
 ot_putD (.inr ho) hty hk hx hi hy hm
theorem ot_updR {o:Oper} {E:Operand→V} {ty key e n k d kd Er sz:Nat} {x i y:Operand} {s:ByteArray} {es:List (ByteArray×Cl)} {outs:List V} {f:Bool} {xs:List (List D)} (ho:o.op= .mapUpdate ty x i y)
  (hty:P.underlying ty=some (.map key e)) (hk:P.underlying key=some .string)
  (hx:E x= .ow n k) (hi:E i= .cv (.string s)) (hy:E y= .ow d kd) (hm:m[n]?=some (some (.asr k (mapC es) outs))) (hd:m[d]?=some (some (.row kd Er sz f xs))):
  OpTr P o E m .un ((m.set n (some (.asr k (mapC (putE es s (.r Er sz xs))) outs))).set d (some (.row (kd+1) Er sz true []))):=by
 intro B w0 N S t a w hs hr
 obtain⟨b,ents,clock,own,uo,h1,h2,h3,h4,h5,h6,h7,h8⟩:=mapC_val hs hm
 obtain⟨ud,hNd,hrow⟩:=row_val hs hd
 have hx':=hr x (by rw[ho];simp[Op.operands])
 have hi':=hr i (by rw[ho];simp[Op.operands])
 have hy':=hr y (by rw[ho];simp[Op.operands])
 rw[hx] at hx';rw[hi] at hi';rw[hy] at hy'
 generalize hu:a.eval x=u at hx'
 generalize hv':a.eval i=v' at hi'
 generalize hvy:a.eval y=vy at hy'
 cases hi'
 have:=map_ref h1 hx'
 subst this
 have hud:vy=ud:=by
  obtain⟨A,c,hsl⟩:=hrow.slice
  cases hy' with
  |ow _ _ _ _ hn=>
   obtain⟨k',v',g1,_,g3⟩:=hn
   rw[hNd] at g1;cases g1
   rw[g3 rfl,hsl];rfl
 subst hud
 have hdone:vy.oneCell'=true:=by obtain⟨A,c,rfl⟩:=hrow.slice;rfl
 obtain⟨ents',clock',hrun,e1,e2,e3⟩:=upd_run (P:=P) (w:=w) hk (s:=s) hty h2 h3 h4 vy (.r Er sz xs)
 obtain⟨l1,l2,l3,l4⟩:=low_block hs (ents':=ents') (clock':=clock') h1 h2
 have hone:∀u∈ents'.toList.map (·.val),u.oneCell'=true:=by
  rcases e3 with⟨_,_,q3⟩|⟨c0,cs1,cs2,us1,u,us2,_,_,_,q4,q5,_⟩
  ·rw[q3];simp only[List.mem_append,List.mem_singleton];rintro u (h|rfl)<;>first|exact h6 u h|exact hdone
  ·rw[q5];rw[q4] at h6
   simp only[List.mem_append,List.mem_cons] at h6⊢
   rintro v (h|rfl|h)<;>first|exact h6 v (.inl h)|exact hdone|exact h6 v (.inr (.inr h))
 have hfin:∃own',(∃own0,own0.Sublist own∧own'.Perm (vy::own0))∧((∀g,S false g→(Go.ChangeMaps.setBlock w b (.map ents' clock')).heap[g]?=w.heap[g]?)→(∀u∈own',∀g,at1 u=some g→(Go.ChangeMaps.setBlock w b (.map ents' clock')).heap[g]?=w.heap[g]?)→
   Cells (S false) (Go.ChangeMaps.setBlock w b (.map ents' clock')) uo ((putE es s (.r Er sz xs)).map (·.2)) (ents'.toList.map (·.val)) own'):=by
  rcases e3 with⟨_,q2,q3⟩|⟨c0,cs1,cs2,us1,u,us2,_,q2,q3,q4,q5,q6⟩
  ·refine⟨own++[vy],⟨own,List.Sublist.refl _,List.perm_append_singleton _ _⟩,fun hS hO=>?_⟩
   rw[q2,q3]
   exact(h7.mono (fun _ h=>h) hS fun u hu=>hO u (by simp[hu])).app (.r (hrow.mono (fun _ h=>h) hS (hO vy (by simp))) .nil)
  ·rw[q2,q4] at h7
   obtain⟨v1,v2,ow1,ow2,r1,rfl,c1,c2⟩:=h7.unapp
   have:=List.append_inj r1 (by rw[←q6,c1.len])
   obtain⟨rfl,rfl⟩:=this
   obtain⟨ow3,hsub,c3⟩:=c2.tl
   refine⟨ow1++vy::ow3,⟨ow1++ow3,List.Sublist.append (List.Sublist.refl _) hsub,List.perm_middle⟩,fun hS hO=>?_⟩
   rw[q3,q5]
   exact(c1.mono (fun _ h=>h) hS fun u hu=>hO u (by simp[hu])).app (.r (hrow.mono (fun _ h=>h) hS (hO vy (by simp))) (c3.mono (fun _ h=>h) hS fun u hu=>hO u (by simp[hu])))
 obtain⟨own',p1,p2⟩:=hfin
 obtain⟨N',g1,g2⟩:=hs.ctr (M':=mapM ((putE es s (.r Er sz xs)).map (·.1))) (cs':=(putE es s (.r Er sz xs)).map (·.2)) hm hd hNd h1 h5 l1 l2 l3 ⟨b,ents',clock',rfl,l4,e1,rfl,e2,hone⟩ p1 h8 p2
 refine opOk_skip (w':=Go.ChangeMaps.setBlock w b (.map ents' clock')) ?_ ⟨N',S,g1,.un _⟩
 unfold execOp
 simp only[ho]
 refine run_u ?_
 rw[hu,hv',hvy]
 exact hrun
theorem ot_delete {o:Oper} {E:Operand→V} {ty key e n k:Nat} {x i:Operand} {s:ByteArray} {es:List (ByteArray×Cl)} {outs:List V} (ho:o.op= .call {callee:= .builtin .delete,args:= #[x,i],argTypes:= #[ty,key]})
  (hty:P.underlying ty=some (.map key e)) (hk:P.underlying key=some .string)
  (hx:E x= .ow n k) (hi:E i= .cv (.string s)) (hm:m[n]?=some (some (.asr k (mapC es) outs))):OpTr P o E m .un (m.set n (some (.asr k (mapC (delE es s)) outs))):=by
 intro B w0 N S t a w hs hr
 obtain⟨b,ents,clock,own,uo,h1,h2,h3,h4,h5,h6,h7,h8⟩:=mapC_val hs hm
 have hx':=hr x (by rw[ho];simp[Op.operands,Call.operands])
 have hi':=hr i (by rw[ho];simp[Op.operands,Call.operands])
 rw[hx] at hx';rw[hi] at hi'
 generalize hu:a.eval x=u at hx'
 generalize hv':a.eval i=v' at hi'
 cases hi'
 have:=map_ref h1 hx'
 subst this
 have hfin:∃ents' own',(Builtin.delete_ #[ty,key] o.type #[.map (some b),.string s]).run P w= .ok (.tuple #[]) (Go.ChangeMaps.setBlock w b (.map ents' clock))∧ents'.toList.map (·.key)=((delE es s).map (·.1)).map Value.string∧((delE es s).map (·.1)).Nodup∧(∀u∈ents'.toList.map (·.val),u∈ents.toList.map (·.val))∧
   own'.Sublist own∧Cells (S false) w uo ((delE es s).map (·.2)) (ents'.toList.map (·.val)) own':=by
  rcases find_str (P:=P) w hk s ents.toList h3 with⟨f1,f2⟩|⟨j,e0,f1,f2,f3,f4⟩
  ·refine⟨ents,own,?_,by rw[delE_new f2];exact h3,by rw[delE_new f2];exact h4,fun _ h=>h,List.Sublist.refl _,by rw[delE_new f2];exact h7⟩
   simp[Builtin.delete_,run_underlying hty,MapKept.run_getObj_map h2,check_str w hk,f1,MapKept.run_setObj_map _ h2,Result.andThen,Go.ChangeMaps.setBlock]
  ·obtain⟨c0,g1,g2⟩:=getE_at h4 f4
   obtain⟨l1,l2,rfl,g3⟩:=getE_some g1
   have hj:j=l1.length:=by
    have h1:(List.map (·.1) (l1++(s,c0)::l2))[l1.length]?=some s:=by simp
    exact(List.getElem?_inj (by have:=lt_of_get f4;simpa using this) h4).1 (f4.trans h1.symm)
   subst hj
   have hjl:l1.length<ents.toList.length:=lt_of_get f2
   have hjs:l1.length<ents.size:=by simpa using hjl
   have hent:ents.toList[l1.length]=e0:=(List.getElem?_eq_some_iff.1 f2).2
   have hsplit:ents.toList=ents.toList.take l1.length++e0::ents.toList.drop (l1.length+1):=by
    rw[←hent,List.getElem_cons_drop,List.take_append_drop]
   have hsub:(ents.eraseIdxIfInBounds l1.length).toList=ents.toList.take l1.length++ents.toList.drop (l1.length+1):=by
    unfold Array.eraseIdxIfInBounds
    rw[dif_pos hjs]
    simp[List.eraseIdx_eq_take_drop_succ]
   have hlt:(ents.toList.take l1.length).length=l1.length:=by rw[List.length_take];omega
   rw[hsplit] at h3 h7
   simp only[List.map_append,List.map_cons] at h3 h7
   obtain⟨v1,v2,ow1,ow2,r1,rfl,c1,c2⟩:=h7.unapp
   have:=List.append_inj r1 (by rw[List.length_map,hlt,←c1.len];simp)
   obtain⟨rfl,rfl⟩:=this
   obtain⟨ow3,hsub3,c3⟩:=c2.tl
   have h3':=List.append_inj h3 (by rw[List.length_map,hlt];simp)
   simp only[List.cons.injEq] at h3'
   refine⟨ents.eraseIdxIfInBounds l1.length,ow1++ow3,?_,?_,?_,?_,List.Sublist.append (List.Sublist.refl _) hsub3,?_⟩
   ·simp[Builtin.delete_,run_underlying hty,MapKept.run_getObj_map h2,check_str w hk,f1,MapKept.run_setObj_map _ h2,Result.andThen,Go.ChangeMaps.setBlock]
   ·rw[delE_old g3,hsub]
    simp only[List.map_append]
    rw[h3'.1,h3'.2.2]
   ·rw[delE_old g3]
    simp only[List.map_append,List.map_cons] at h4⊢
    exact List.Nodup.sublist (List.Sublist.append (List.Sublist.refl _) (List.sublist_cons_self _ _)) h4
   ·rw[hsub]
    conv=>intro u hu;rw[hsplit]
    simp only[List.map_append,List.map_cons,List.mem_append,List.mem_cons]
    rintro u (h|h)<;>first|exact .inl h|exact .inr (.inr h)
   ·rw[delE_old g3,hsub]
    simp only[List.map_append]
    exact c1.app c3
 obtain⟨ents',own',hrun,e1,e2,e3,p1,p2⟩:=hfin
 obtain⟨l1,l2,l3,l4⟩:=low_block hs (ents':=ents') (clock':=clock) h1 h2
 obtain⟨N',g1,g2⟩:=hs.ct (M':=mapM ((delE es s).map (·.1))) (cs':=(delE es s).map (·.2)) hm h1 h5 rfl l1 l2 l3 ⟨b,ents',clock,rfl,l4,e1,rfl,e2,fun u hu=>h6 u (e3 u hu)⟩ p1 h8 (fun hS hO=>p2.mono (fun _ h=>h) hS hO)
 refine opOk_val (u:= .tuple #[]) (w':=Go.ChangeMaps.setBlock w b (.map ents' clock)) ?_ ⟨N',S,g1,.un _⟩
 unfold execOp
 simp only[ho]
 simp[resolve,invoke,builtin,hu,hv',hrun]
theorem ot_makeMap {o:Oper} {E:Operand→V} {ty d:Nat} (ho:o.op= .makeMap ty none) (_hd:o.dst=some d) (hm:m[d]?=some none):OpTr P o E m (.ow d 0) (m.set d (some (.asr 0 (mapC []) []))):=by
 intro B w0 N S t a w hs hr
 have hnone:N d=none:=hs.non d fun b' h=>by rw[hm] at h;cases h
 have hheap:=MapKept.heap_alloc w (.map #[] 0)
 obtain⟨N',g1,g2,g3⟩:=hs.set (w':=w.alloc (.map #[] 0)) (d:=d) (k:=0) (v:= .agg (#[.map (some w.heap.size)]:Array Value)) (b:= .asr 0 (mapC []) []) (lt_of_get hm) (fun k0 v0 h=>by rw[hnone] at h;cases h)
  (hs.low.alloc hs.base _) (by simp) (fun g hg _=>Below.heap_alloc _ _ _ hg)
  (fun g hg=>by
   obtain⟨u,hu,e⟩:=(at_ct (main:= .map (some w.heap.size)) (own:=[])).1 hg
   simp at hu;subst hu;cases e
   exact⟨by simp,.inl (Nat.le_refl _)⟩)
  (fun N' e1 e2 e3=>⟨_,[],e1,⟨rfl,by simp⟩,.map (some w.heap.size),[],[],rfl,⟨_,#[],0,rfl,hheap.1,rfl,rfl,by simp,by simp⟩,.nil,by simp[Dj]⟩)
 refine opOk_val (u:= .map (some w.heap.size)) (w':=w.alloc (.map #[] 0)) ?_ ⟨N',S,g3,.ow d 0 _ rfl ⟨0,_,g1,Nat.le_refl _,fun _=>by simp[hdv]⟩⟩
 unfold execOp
 simp only[ho]
 refine run_v ?_
 simp[Instr.makeMap]
end
end Go.Proofs.YtjmabkpcahmnpaaGreatDoor
namespace Go.Proofs.YtjmabkpcahmnpaaGreatDoor
open Go.RowKit
def Cl.isO:Cl→Bool
 | .o _=>true
 |_=>false
theorem useO_none:∀{cs:List Cl} {i:Nat},(∀c∈cs,c.isO=false)→useO cs i=false
 |[],i,_=>rfl
 | .o j::l,i,h=>by have:=h _ (List.mem_cons_self ..);simp[Cl.isO] at this
 | .d _::l,i,h=>useO_none (cs:=l) fun c hc=>h c (List.mem_cons_of_mem _ hc)
 | .r .. ::l,i,h=>useO_none (cs:=l) fun c hc=>h c (List.mem_cons_of_mem _ hc)
 | .z::l,i,h=>useO_none (cs:=l) fun c hc=>h c (List.mem_cons_of_mem _ hc)
theorem getE_setE {α:Type} {l1 l2:List (ByteArray×α)} {s:ByteArray} {c:α} (h:s∉l1.map (·.1)):getE (l1++(s,c)::l2) s=some c:=by
 induction l1 with
 |nil=>simp[getE]
 |cons x l1 ih=>
  simp only[List.map_cons,List.mem_cons,not_or] at h
  simp only[List.cons_append,getE]
  rw[if_neg (Ne.symm h.1)]
  exact ih h.2
section
variable {P:Program} {T:Tab} {B:Fr} {w0:World} {N:Names} {S:Sets} {t:List V} {m:List (Option Bk)} {a:Act} {w:World}
theorem gh_openE {n k d E' sz':Nat} {es:List (ByteArray×Cl)} {s:ByteArray} {xs:List (List D)} {outs:List V} (hm:m[n]?=some (some (.asr k (mapC es) outs))) (hg:getE es s=some (.r E' sz' xs)) (hd:m[d]?=some none):
  GhM m ((m.set n (some (.asr k (mapC (putE es s (.o outs.length))) (outs++[.ow d 0])))).set d (some (.row 0 E' sz' false xs))):=by
 obtain⟨l1,l2,rfl,h2⟩:=getE_some hg
 rw[putE_old h2]
 unfold mapC at hm⊢
 simp only[List.map_append,List.map_cons] at hm⊢
 exact gh_open hm hd
theorem gh_closeE {n k d kd E' sz':Nat} {f:Bool} {es:List (ByteArray×Cl)} {s:ByteArray} {c:Cl} {xs:List (List D)} {outs:List V} (hg:getE es s=some c) (hu:useO (es.map (·.2)) outs.length=false)
  (hm:m[n]?=some (some (.asr k (mapC (putE es s (.o outs.length))) (outs++[.ow d kd])))) (hd:m[d]?=some (some (.row kd E' sz' f xs))):
  GhM m ((m.set n (some (.asr k (mapC (putE es s (.r E' sz' xs))) outs))).set d (some (.row (kd+1) E' sz' true []))):=by
 obtain⟨l1,l2,rfl,h2⟩:=getE_some hg
 rw[putE_old h2] at hm⊢
 unfold mapC at hm⊢
 simp only[List.map_append,List.map_cons] at hm hu⊢
 have hu':useO (l1.map (·.2)) outs.length=false∧useO (l2.map (·.2)) outs.length=false:=by
  rw[useO_app] at hu
  simp only[Bool.or_eq_false_iff] at hu
  refine⟨hu.1,?_⟩
  have:=hu.2
  cases c<;>simp only[useO,Bool.or_eq_false_iff] at this<;>first|exact this|exact this.2
 exact gh_close hm hd hu'.1 hu'.2
theorem gh_dropE {n k:Nat} {es:List (ByteArray×Cl)} {outs:List V} {x:V} (hm:m[n]?=some (some (.asr k (mapC es) (outs++[x])))) (h1:useO (es.map (·.2)) outs.length=false):
  GhM m (m.set n (some (.asr k (mapC es) outs))):=gh_drop hm h1
theorem ot_look0 {o:Oper} {E:Operand→V} {ty key e n k d E' sz':Nat} {x i:Operand} {s:ByteArray} {es:List (ByteArray×Cl)} {outs:List V} (ho:o.op= .lookup ty x i false) (hdst:m[d]?=some none) (h0:0<sz')
  (hty:P.underlying ty=some (.map key e)) (hk:P.underlying key=some .string) (hz:(P.info? e).bind (·.zero)=some (.slice none 0 0))
  (hx:E x= .ow n k) (hi:E i= .cv (.string s)) (hm:m[n]?=some (some (.asr k (mapC es) outs))) (hg:getE es s=none):OpTr P o E m (.ow d 0) (m.set d (some (.row 0 E' sz' true []))):=by
 have hrd:=rd_look (P:=P) (m:=m) ho hty hk hz hx hi hm (v:= .cv (.slice none 0 0)) (by rw[hg])
 intro B w0 N S t a w hs hr Q
 refine Oper.wp_mono' (hrd B w0 N S t m a w hs (fun _ _ h=>h) hr Q) ?_
 rintro a' w' ⟨u,he,rfl,hrel⟩
 cases hrel
 have hnone:N d=none:=hs.non d fun b' h=>by rw[hdst] at h;cases h
 obtain⟨N',g1,g2,g3⟩:=hs.set (w':=w') (d:=d) (k:=0) (v:= .slice none 0 0) (b:= .row 0 E' sz' true []) (lt_of_get hdst) (fun k0 v0 h=>by rw[hnone] at h;cases h)
  hs.low (Nat.le_refl _) (fun _ _ _=>rfl) (fun g hg=>by simp[At,at1] at hg)
  (fun N' e1 e2 e3=>⟨.slice none 0 0,[],e1,⟨by simp,.inl ⟨rfl,rfl⟩⟩,by simp,h0,fun i j d hd=>by simp at hd,fun _ g hg=>by simp[At,at1] at hg⟩)
 exact⟨_,he,N',S,g3,.ow d 0 _ rfl ⟨0,_,g1,Nat.le_refl _,fun _=>rfl⟩⟩
theorem ot_look1 {o:Oper} {E:Operand→V} {ty key e n k d E' sz':Nat} {x i:Operand} {s:ByteArray} {es:List (ByteArray×Cl)} {outs:List V} {xs:List (List D)} {z:Value} (ho:o.op= .lookup ty x i false) (hdst:m[d]?=some none)
  (hty:P.underlying ty=some (.map key e)) (hk:P.underlying key=some .string) (hz:(P.info? e).bind (·.zero)=some z)
  (hx:E x= .ow n k) (hi:E i= .cv (.string s)) (hm:m[n]?=some (some (.asr k (mapC es) outs))) (hg:getE es s=some (.r E' sz' xs)):
  OpTr P o E m (.ow d 0) ((m.set n (some (.asr k (mapC (putE es s (.o outs.length))) (outs++[.ow d 0])))).set d (some (.row 0 E' sz' false xs))):=by
 have hnd:n≠d:=by rintro rfl;rw[hm] at hdst;cases hdst
 refine ot_pre (gh_openE hm hg hdst) (ot_rd (rd_look (outs:=outs++[.ow d 0]) (es:=putE es s (.o outs.length)) (z:=z) ho hty hk hz hx hi ?_ ?_))
 ·rw[List.getElem?_set_ne (Ne.symm hnd),List.getElem?_set_self (lt_of_get hm)]
 ·obtain⟨l1,l2,rfl,h2⟩:=getE_some hg
  rw[putE_old h2,getE_setE h2]
  simp[Cl.v]
end
end Go.Proofs.YtjmabkpcahmnpaaGreatDoor
