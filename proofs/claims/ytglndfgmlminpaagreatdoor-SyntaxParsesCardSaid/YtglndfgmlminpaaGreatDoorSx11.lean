/- Texts joined by pack.py: XSxP XSxQ XSxS -/
import Derived.Test.YtglndfgmlminpaaGreatDoorSx10
namespace Go.Proofs.YtglndfgmlminpaaGreatDoor
open Go.RowKit
def NamesOf (ns:List Value):Names:=fun n=>(ns[n]?).map fun v=>(0,v)
def blks (ns:List Value) (g:Nat):Prop:=∃v∈ns,atOf v=some g
structure MemOk (H:Nat) (S:Sets) (w:World) (ns:List Value) (m:List Bk):Prop where
 len:ns.length=m.length
 blk:∀k b,m[k]?=some b→Holds H (NamesOf ns) S w k b
 apart:∀(j k:Nat) (u v:Value) g,ns[j]?=some u→ns[k]?=some v→atOf u=some g→atOf v=some g→j=k
 data:∀f g,S f g→g<w.heap.size∧¬blks ns g
 lt:∀g,blks ns g→g<w.heap.size
 inv:ginv w∧∀g,glob g→¬blks ns g
def oldS (So:Nat→Prop):Sets:=fun f g=>f=false∧So g
def newS (So:Nat→Prop) (w w':World) (ns':List Value):Sets:=fun f g=>g<w'.heap.size∧¬blks ns' g∧(w.heap.size≤g∨(f=false∧So g))
def MCallsG (st:Bool) (P:Program) (f:FuncId) (args:List V) (m:List Bk) (res:V) (m':List Bk):Prop:=
 (∃fn,P.funcs[f]?=some fn∧(fn.name== "runtime.NumGoroutine")=false∧fn.body.isNone=false)∧
 ∀(w:World) (vs ns:List Value) (So:Nat→Prop),MemOk w.heap.size (oldS So) w ns m→RelL (NamesOf ns) (oldS So) w args vs→
  Calls P f vs.toArray w fun e w'=>∃v ns',e= .returned v∧MemOk w.heap.size (newS So w w' ns') w' ns' m'∧RelV (NamesOf ns') (newS So w w' ns') w' res v∧
   Low (fun g=>g<w.heap.size∧¬blks ns g) w w'∧ns.length≤ns'.length∧(∀(k:Nat) (a:Addr),ns[k]?=some (.pointer (some a))→ns'[k]?=some (.pointer (some a)))∧(∀g,blks ns' g→blks ns g∨w.heap.size≤g)∧(st=true→∀(k:Nat) (v:Value),ns[k]?=some v→ns'[k]?=some v)∧
   (∀(k:Nat) (v v':Value) (g:Nat),ns[k]?=some v→ns'[k]?=some v'→atOf v'=some g→atOf v=some g∨w.heap.size≤g)
abbrev MCalls:=MCallsG false
def V.sh1 (base:Nat):V→V
 | .bx n o=> .bx (base+n) o
 | .ic t n=> .ic t (base+n)
 | .ow n k=> .ow (base+n) k
 | .oq n k s i o=> .oq (base+n) k s i o
 | .vw n k s lo hi=> .vw (base+n) k s lo hi
 | .cv v=> .cv v
 | .kb b=> .kb b
 | .sl f sz xs=> .sl f sz xs
 | .el f cells o=> .el f cells o
 |_=> .un
def V.sh (base:Nat):V→V
 | .ag cs=> .ag (cs.map (V.sh1 base))
 | .fn f n cs=> .fn f n (cs.map (V.sh1 base))
 |v=>v.sh1 base
def Bk.sh (base:Nat):Bk→Bk
 | .box cs bt=> .box (cs.map (V.sh base)) bt
 | .row k E sz f xs=> .row k E sz f xs
 | .fz k E bs=> .fz k E bs
section
variable {P:Program} {T:Tab} {B:Fr} {w0:World} {N:Names} {S:Sets} {t t':List V} {m m':List (Option Bk)} {a:Act} {w:World}
theorem sh_rel {N N':Names} {base:Nat} (hN:∀n,N' (base+n)=N n) {v:V} {u:Value} (h:RelV N S w v u):RelV N' S w (v.sh base) u:=by
 have one:∀{v:V} {u:Value},RelV N S w v u→RelV N' S w (v.sh1 base) u:=by
  intro v u h
  cases h<;>simp only[V.sh1]<;>try exact .un _
  ·exact .cv _
  ·exact .kb _
  ·exact .sl _ _ _ _ (by assumption)
  ·exact .el _ _ _ _ _ (by assumption) _ (by assumption)
  ·rename_i hn;exact .bx _ _ _ (by rw[hN];exact hn)
  ·rename_i hu hn;exact .ow _ _ _ hu (by rw[hN];exact hn)
  ·rename_i hu hn;exact .oq _ _ _ _ _ _ hu (by rw[hN];exact hn)
  ·rename_i hu hn;exact .vw _ _ _ _ _ _ hu (by rw[hN];exact hn)
  ·rename_i hn;exact .ic _ _ _ (by rw[hN];exact hn)
 have list:∀{cs:List V} {i:Nat} {v:V} {us:Array Value},(∀i v,cs[i]?=some v→RelV N S w v (us.getD i undef))→(cs.map (V.sh1 base))[i]?=some v→RelV N' S w v (us.getD i undef):=by
  intro cs i v us h hv
  rw[List.getElem?_map,Option.map_eq_some_iff] at hv
  obtain⟨v',hv',rfl⟩:=hv
  exact one (h i v' hv')
 unfold V.sh
 split
 ·cases h with
  |ag _ us hl h=>exact .ag _ us (by simpa using hl) fun i v hv=>list h hv
 ·cases h with
  |fn _ _ _ us vs hn hl h=>exact .fn _ _ _ us vs hn (by simpa using hl) fun i v hv=>list h hv
 ·exact one h
theorem sh_holds {H:Nat} {N N':Names} {base n:Nat} (hN:∀n,N' (base+n)=N n) {b:Bk} (h:Holds H N S w n b):Holds H N' S w (base+n) (b.sh base):=by
 cases b with
 |box cs=>
  obtain⟨g,ty,us,h1,h2,h3,h4⟩:=h
  refine⟨g,ty,us,(hN n).trans h1,h2,by simpa using h3,fun i v hv=>?_⟩
  rw[List.getElem?_map,Option.map_eq_some_iff] at hv
  obtain⟨v',hv',rfl⟩:=hv
  exact sh_rel hN (h4 i v' hv')
 |row k E sz f xs=>
  obtain⟨v,us,h1,h2⟩:=h
  exact⟨v,us,(hN n).trans h1,h2⟩
 |fz k E bs=>
  obtain⟨g,cap,us,fr,h1,h2⟩:=h
  exact⟨g,cap,us,fr,(hN n).trans h1,h2⟩
def inM (ntmps:Nat) (m:List Bk):List (Option Bk):=List.replicate ntmps none++m.map (fun b=>some (b.sh ntmps))++List.replicate (32 - m.length) none
theorem inM_get {ntmps:Nat} {m:List Bk} {k:Nat} {b:Bk} (h:(inM ntmps m)[k]?=some (some b)):∃n b0,k=ntmps+n∧m[n]?=some b0∧b=b0.sh ntmps:=by
 unfold inM at h
 rw[List.getElem?_append] at h
 split at h
 ·rw[List.getElem?_append] at h
  split at h
  ·rw[List.getElem?_replicate] at h;split at h<;>cases h
  ·rename_i hlt
   rw[List.getElem?_map,Option.map_eq_some_iff] at h
   obtain⟨b0,h1,h2⟩:=h
   cases h2
   simp only[List.length_replicate] at h1 hlt
   exact⟨k - ntmps,b0,by omega,h1,rfl⟩
 ·rw[List.getElem?_replicate] at h;split at h<;>cases h
theorem inM_none {ntmps:Nat} {m:List Bk} {k:Nat} (h:∀b,(inM ntmps m)[k]?≠some (some b)):k<ntmps∨m.length≤k - ntmps:=by
 rcases Nat.lt_or_ge k ntmps with h1|h1
 ·exact .inl h1
 rcases Nat.lt_or_ge (k - ntmps) m.length with h2|h2
 ·refine absurd ?_ (h (m[k - ntmps].sh ntmps))
  unfold inM
  rw[List.getElem?_append_left (by simp;omega),List.getElem?_append_right (by simp;omega),List.getElem?_map,List.length_replicate,List.getElem?_eq_getElem h2]
  rfl
 ·exact .inr h2
def baseN (base:Nat) (ns:List Value):Names:=fun n=>if base≤n then NamesOf ns (n - base) else none
theorem baseN_add (base:Nat) (ns:List Value) (n:Nat):baseN base ns (base+n)=NamesOf ns n:=by
 unfold baseN;rw[if_pos (by omega)];congr 1;omega
theorem baseN_some {base:Nat} {ns:List Value} {n x:Nat} {v:Value} (h:baseN base ns n=some (x,v)):∃k,n=base+k∧ns[k]?=some v∧x=0:=by
 unfold baseN at h
 split at h
 ·simp only[NamesOf,Option.map_eq_some_iff] at h
  obtain⟨u,hu,he⟩:=h
  cases he
  exact⟨n - base,by omega,hu,rfl⟩
 ·cases h
def frM (w:World) (ns:List Value) (So:Nat→Prop) (n:Nat):Fr:={keep:=fun g=>g<w.heap.size∧¬blks ns g,old:=So,lent:=fun k=>if n≤k then(match ns[k - n]? with|some (.pointer (some a))=>some a|_=>none) else none,ref:=w,stay:=fun k=>if n≤k then(ns[k - n]?).map atOf else none}
theorem sat_enterM {args:List V} {vs ns:List Value} {So:Nat→Prop} {m:List Bk} (hm:MemOk w.heap.size (oldS So) w ns m) (h:RelL (NamesOf ns) (oldS So) w args vs) (n:Nat) (hn:args.length≤n) (h16:m.length≤16):
  Sat (frM w ns So n) w (baseN n ns) (oldS So) (args.map (V.sh n)++List.replicate (n - args.length) .un) (inM n m) {tmps:=vs.toArray++Array.replicate (n - vs.toArray.size) undef,defers:=[]} w:=by
 have hN:=baseN_add n ns
 refine⟨Low.refl _ _,rfl,⟨by simp[h.1],fun i v hv=>?_⟩,?_,?_,?_,?_,?_,?_,fun _ h=>h.1,fun g hg=> .inr hg.2,fun k a hk=>?_,⟨Nat.le_refl _,fun p h=>(by cases h),fun g h=>h.elim,hm.inv.1,fun g hg=>⟨ginv_lt hm.inv.1 hg,hm.inv.2 g hg⟩⟩,fun k og hk=>?_⟩
 rotate_right
 ·simp only[frM] at hk
  split at hk
  rotate_left
  ·cases hk
  rename_i hle
  rw[Option.map_eq_some_iff] at hk
  obtain⟨v,hv,rfl⟩:=hk
  have hlt:=lt_of_get hv
  rw[hm.len] at hlt
  have hlen:(args.map (V.sh n)++List.replicate (n - args.length) V.un).length=n:=by simp;omega
  rw[hlen]
  refine⟨.inr ⟨hle,by omega⟩,0,v,?_,fun g hg=> .inl hg⟩
  unfold baseN
  rw[if_pos hle]
  simp[NamesOf,hv]
 ·rw[List.getElem?_append] at hv
  split at hv
  ·rename_i hlt
   rw[List.getElem?_map,Option.map_eq_some_iff] at hv
   obtain⟨v',hv',rfl⟩:=hv
   have:=sh_rel hN (h.2 i v' hv')
   have hlt':i<vs.length:=by rw[←h.1];exact lt_of_get hv'
   have e:(({tmps:=vs.toArray++Array.replicate (n - vs.toArray.size) undef,defers:=[]}:Act).tmps.toList).getD i undef=vs.getD i undef:=by
    simp only[Array.toList_append,List.getD_eq_getElem?_getD]
    rw[List.getElem?_append_left hlt']
   rw[e];exact this
  ·rw[List.getElem?_replicate] at hv
   split at hv
   ·cases hv;exact .un _
   ·cases hv
 ·intro k b hb
  obtain⟨j,b0,rfl,h1,rfl⟩:=inM_get hb
  exact sh_holds hN (hm.blk j b0 h1)
 ·intro k hk
  rcases inM_none hk with h1|h1
  ·unfold baseN;rw[if_neg (by omega)]
  ·unfold baseN
   split
   ·simp only[NamesOf]
    rw[List.getElem?_eq_none (by rw[hm.len];exact h1)];rfl
   ·rfl
 ·intro j k x y u v g h1 h2 h3 h4
  obtain⟨j',rfl,a1,_⟩:=baseN_some h1
  obtain⟨k',rfl,a2,_⟩:=baseN_some h2
  rw[hm.apart j' k' u v g a1 a2 h3 h4]
 ·intro f g hg
  refine⟨(hm.data f g hg).1,fun k x v h1 h2=>?_⟩
  obtain⟨k',rfl,a1,_⟩:=baseN_some h1
  exact(hm.data f g hg).2 ⟨v,List.mem_of_getElem? a1,h2⟩
 ·intro g hg;cases hg.1
 ·intro k x v g h1 h2
  obtain⟨k',rfl,a1,_⟩:=baseN_some h1
  have:blks ns g:=⟨v,List.mem_of_getElem? a1,h2⟩
  exact⟨fun hk=>hk.2 this,hm.lt g this⟩
 ·simp only[frM] at hk
  split at hk
  rotate_left
  ·cases hk
  rename_i hle
  split at hk
  rotate_left
  ·cases hk
  rename_i a' ha
  cases hk
  have hlt:=lt_of_get ha
  rw[hm.len] at hlt
  have hlen:(args.map (V.sh n)++List.replicate (n - args.length) V.un).length=n:=by simp;omega
  rw[hlen]
  refine⟨hle,by omega,?_⟩
  unfold baseN
  rw[if_pos hle]
  simp[NamesOf,ha]
end
end Go.Proofs.YtglndfgmlminpaaGreatDoor
namespace Go.Proofs.YtglndfgmlminpaaGreatDoor
open Go.RowKit
def has:List Nat→Nat→Bool
 |[],_=>false
 |a::l,n=>match Nat.beq a n with
  |true=>true
  |false=>has l n
def idx:List Nat→Nat→Nat→Option Nat
 |[],_,_=>none
 |a::l,n,i=>match Nat.beq a n with
  |true=>some i
  |false=>idx l n (i+1)
def V.nm1:V→List Nat
 | .bx n _=>[n]
 | .ic _ n=>[n]
 | .ow n _=>[n]
 |_=>[]
def V.nm2:V→List Nat
 | .fn _ _ cs=>cs.flatMap V.nm1
 |v=>v.nm1
def Bk.names:Bk→List Nat
 | .box cs _=>cs.flatMap V.nm2
 | .row .. =>[]
 | .fz .. =>[]
def V.bn1:V→List Nat
 | .bx n _=>[n]
 | .ic _ n=>[n]
 |_=>[]
def V.bn:V→List Nat
 | .ag cs=>cs.flatMap V.bn1
 | .fn _ _ cs=>cs.flatMap V.nm1
 |v=>v.bn1
def reach (m:List (Option Bk)):Nat→List Nat→List Nat→List Nat
 |0,_,acc=>acc
 |_+1,[],acc=>acc
 |f+1,n::todo,acc=>match has acc n,m[n]? with
  |false,some (some b)=>reach m f (b.names++todo) (n::acc)
  |_,_=>reach m f todo acc
def revK:List Nat→List Nat→(List Nat→Prop)→Prop
 |[],acc,K=>K acc
 |n::l,acc,K=>revK l (n::acc) K
def distinctB:List Nat→Bool
 |[]=>true
 |n::l=>match has l n with
  |true=>false
  |false=>distinctB l
def V.ex1 (ρ:List Nat) (m:List (Option Bk)):V→V
 | .bx n o=>match idx ρ n 0 with
  |some i=> .bx i o
  |none=> .un
 | .ic t n=>match idx ρ n 0 with
  |some i=> .ic t i
  |none=> .un
 | .ow n k=>match m[n]? with
  |some (some (.row k' _ sz f xs))=>match decide (k=k'),idx ρ n 0,f with
   |true,some i,_=> .ow i 0
   |true,none,true=> .sl true sz xs
   |_,_,_=> .un
  |_=> .un
 | .vw n k s lo hi=>match m[n]? with
  |some (some (.row k' _ sz f xs))=>match decide (k=k'∧s=sz),idx ρ n 0,f with
   |true,none,true=> .sl true sz ((xs.take hi).drop lo)
   |_,_,_=> .un
  |_=> .un
 | .cv v=> .cv v
 | .kb b=> .cv (.bool b)
 | .sl f sz xs=> .sl f sz xs
 | .el f cells o=> .el f cells o
 |_=> .un
def V.ex (ρ:List Nat) (m:List (Option Bk)):V→V
 | .ag cs=> .ag (cs.map (V.ex1 ρ m))
 | .fn f n cs=> .fn f n (cs.map (V.ex1 ρ m))
 |v=>v.ex1 ρ m
def Bk.ex (ρ:List Nat) (m:List (Option Bk)):Bk→Bk
 | .box cs bt=> .box (cs.map (V.ex ρ m)) bt
 | .row _ E sz f xs=> .row 0 E sz f xs
 | .fz _ E bs=> .fz 0 E bs
def exM (ρ:List Nat) (m:List (Option Bk)):List Nat→Option (List Bk)
 |[]=>some []
 |n::l=>match m[n]?,exM ρ m l with
  |some (some b),some bs=>some (b.ex ρ m::bs)
  |_,_=>none
section
variable {P:Program} {T:Tab} {B:Fr} {w0:World} {N:Names} {S:Sets} {t t':List V} {m m':List (Option Bk)} {a:Act} {w:World} {ρ:List Nat}
theorem idx_spec:∀{l:List Nat} {n i j:Nat},idx l n i=some j→i≤j∧l[j - i]?=some n
 |[],n,i,j,h=>by cases h
 |a::l,n,i,j,h=>by
  simp only[idx] at h
  split at h
  ·rename_i hb
   cases h
   have:=Nat.eq_of_beq_eq_true hb
   subst this
   exact⟨Nat.le_refl _,by simp⟩
  ·obtain⟨h1,h2⟩:=idx_spec h
   refine⟨by omega,?_⟩
   rw[show j - i=(j - (i+1))+1 by omega]
   simpa using h2
theorem idx_none:∀{l:List Nat} {n i:Nat},idx l n i=none→n∉l
 |[],n,i,_=>by simp
 |a::l,n,i,h=>by
  simp only[idx] at h
  split at h
  ·cases h
  ·rename_i hb
   have h1:=idx_none h
   simp only[List.mem_cons,not_or]
   refine⟨fun e=>?_,h1⟩
   subst e
   have:Nat.beq n n=true:=by simp
   rw[this] at hb;cases hb
theorem has_spec:∀{l:List Nat} {n:Nat},has l n=false→n∉l
 |[],n,_=>by simp
 |a::l,n,h=>by
  simp only[has] at h
  split at h
  ·cases h
  ·rename_i hb
   simp only[List.mem_cons,not_or]
   refine⟨fun e=>?_,has_spec h⟩
   subst e
   have:Nat.beq n n=true:=by simp
   rw[this] at hb;cases hb
theorem distinctB_spec:∀{l:List Nat},distinctB l=true→∀(i j n:Nat),l[i]?=some n→l[j]?=some n→i=j
 |[],_,i,j,n,h,_=>by simp at h
 |a::l,hd,i,j,n,h1,h2=>by
  simp only[distinctB] at hd
  split at hd
  ·cases hd
  rename_i hh
  have hn:=has_spec hh
  cases i with
  |zero=>
   cases j with
   |zero=>rfl
   |succ j=>simp at h1 h2;subst h1;exact absurd (List.mem_of_getElem? h2) hn
  |succ i=>
   cases j with
   |zero=>simp at h1 h2;subst h2;exact absurd (List.mem_of_getElem? h1) hn
   |succ j=>rw[distinctB_spec hd i j n (by simpa using h1) (by simpa using h2)]
def valsOf (N:Names) (ρ:List Nat):List Value:=ρ.map fun n=>((N n).map (·.2)).getD undef
theorem valsOf_get {i n x:Nat} {v:Value} (h:ρ[i]?=some n) (hn:N n=some (x,v)):(valsOf N ρ)[i]?=some v:=by
 simp[valsOf,List.getElem?_map,h,hn]
theorem valsOf_names {i n x:Nat} {v:Value} (h:ρ[i]?=some n) (hn:N n=some (x,v)):NamesOf (valsOf N ρ) i=some (0,v):=by
 simp[NamesOf,valsOf_get h hn]
theorem blks_valsOf (_hρ:∀n∈ρ,∃b,m[n]?=some (some b)) (_hs:Sat B w0 N S t m a w) {g:Nat} (h:blks (valsOf N ρ) g):∃n∈ρ,∃x v,N n=some (x,v)∧atOf v=some g:=by
 obtain⟨v,hv,hg⟩:=h
 simp only[valsOf,List.mem_map] at hv
 obtain⟨n,hn,rfl⟩:=hv
 cases hN:N n with
 |none=>rw[hN] at hg;simp[atOf,undef] at hg
 |some p=>rw[hN] at hg;exact⟨n,hn,p.1,p.2,hN,by simpa using hg⟩
theorem ex1_rel (hs:Sat B w0 N S t m a w) (hρ:∀n∈ρ,∃b,m[n]?=some (some b)) {v:V} {u:Value} (h:RelV N S w v u):RelV (NamesOf (valsOf N ρ)) (newS B.old w0 w (valsOf N ρ)) w (v.ex1 ρ m) u:=by
 have hnb:∀f g,S f g→¬blks (valsOf N ρ) g:=fun f g hg hb=>by
  obtain⟨n,_,x,v,h1,h2⟩:=blks_valsOf hρ hs hb
  exact(hs.data f g hg).2 n x v h1 h2
 have hS:∀f g,S f g→newS B.old w0 w (valsOf N ρ) f g:=fun f g hg=>by
  refine⟨(hs.data f g hg).1,hnb f g hg,?_⟩
  cases f with
  |true=>exact .inl (hs.fresh g hg).2
  | false => rcases hs.old g hg with h|h
             · exact .inl h
             · exact .inr ⟨rfl,h⟩
 have hrow:∀{n:Nat} {k':Nat} {v:Value},N n=some (k',v)→n∉ρ→(∀g,atOf v=some g→w0.heap.size≤g)→∀g,atOf v=some g→newS B.old w0 w (valsOf N ρ) true g:=by
  intro n k' v hn hni hnew g hg
  refine⟨(hs.own n k' v g hn hg).2,fun hb=>?_,.inl (hnew g hg)⟩
  obtain⟨n',hn',x,v',h1,h2⟩:=blks_valsOf hρ hs hb
  have:=hs.apart n n' _ _ _ _ g hn h1 hg h2
  subst this;exact hni hn'
 cases h<;>simp only[V.ex1]<;>try exact .un _
 ·exact .cv _
 ·exact .cv _
 ·rename_i f sz xs h
  exact .sl _ _ _ _ (h.mono (hS f) fun _ _=>rfl)
 ·rename_i f cells o b off hSb u hc
  exact .el _ _ _ _ _ (hS _ _ hSb) u fun j d hj=>⟨(hc j d hj).1,(hc j d hj).2.mono (hS f) fun _ _=>rfl⟩
 ·rename_i n o b hn
  split
  ·rename_i i hi
   exact .bx _ _ _ (valsOf_names (by simpa using(idx_spec hi).2) hn)
  ·exact .un _
 ·rename_i n k hu hn
  obtain⟨k',v,hn,hk,he⟩:=hn
  split
  ·rename_i k2 E sz f xs hm
   have hcells:=fun(f:Bool) (hf:f=true) (hm:m[n]?=some (some (.row k2 E sz f xs)))=>row_new hs (by rw[hf] at hm;exact hm) hn
   split
   ·rename_i hkk hi
    simp only[decide_eq_true_eq] at hkk
    subst hkk
    obtain⟨rfl,_⟩:=row_cells hs hm hn
    have:=he rfl
    subst this
    exact .ow _ _ _ hu ⟨0,_,valsOf_names (by simpa using(idx_spec hi).2) hn,Nat.le_refl _,fun _=>rfl⟩
   ·rename_i hkk hi
    simp only[decide_eq_true_eq] at hkk
    subst hkk
    have hb6:=hcells true rfl hm
    obtain⟨rfl,h1,h2,h3⟩:=row_cells hs hm hn
    have:=he rfl
    subst this
    rcases h3 with⟨rfl,rfl⟩|⟨g,cap,us,rfl,h4,h5,_,_,h6⟩
    ·exact .sl _ _ _ _ (.nil _ _ _)
    ·refine .sl _ _ _ _ (.sl _ _ g 0 cap (fun i j=>us.getD (i*sz+j) undef) (hrow hn (idx_none hi) hb6 g rfl) h1 h5 (fun i j d hd=>?_) (fun i j d hd=>?_))
     ·obtain⟨h7,_⟩:=h6 i j d hd
      rw[cell_of_row w g _ us E _ h4]
      simp[Array.getD_eq_getD_getElem?,h7]
     ·exact(h6 i j d hd).2.mono (hS true) fun _ _=>rfl
   ·exact .un _
  ·exact .un _
 ·rename_i n k s lo hi hu hn
  obtain⟨k',v,hn,hk,he⟩:=hn
  split
  ·rename_i k2 E sz f xs hm
   split
   ·rename_i hkk hi
    simp only[decide_eq_true_eq] at hkk
    obtain⟨rfl,rfl⟩:=hkk
    have hb6:=row_new hs hm hn
    obtain⟨rfl,_⟩:=row_cells hs hm hn
    exact .sl _ _ _ _ (vw_data hs hm hn (he rfl) (hS true) fun g hg=>hrow hn (idx_none hi) hb6 g hg)
   ·exact .un _
  ·exact .un _
 ·rename_i t n b hn
  split
  ·rename_i i hi
   exact .ic _ _ _ (valsOf_names (by simpa using(idx_spec hi).2) hn)
  ·exact .un _
theorem ex_rel (hs:Sat B w0 N S t m a w) (hρ:∀n∈ρ,∃b,m[n]?=some (some b)) {v:V} {u:Value} (h:RelV N S w v u):RelV (NamesOf (valsOf N ρ)) (newS B.old w0 w (valsOf N ρ)) w (v.ex ρ m) u:=by
 have list:∀{cs:List V} {i:Nat} {v:V} {us:Array Value},(∀i v,cs[i]?=some v→RelV N S w v (us.getD i undef))→(cs.map (V.ex1 ρ m))[i]?=some v→RelV (NamesOf (valsOf N ρ)) (newS B.old w0 w (valsOf N ρ)) w v (us.getD i undef):=by
  intro cs i v us h hv
  rw[List.getElem?_map,Option.map_eq_some_iff] at hv
  obtain⟨v',hv',rfl⟩:=hv
  exact ex1_rel hs hρ (h i v' hv')
 unfold V.ex
 split
 ·cases h with
  |ag _ us hl h=>exact .ag _ us (by simpa using hl) fun i v hv=>list h hv
 ·cases h with
  |fn _ _ _ us vs hn hl h=>exact .fn _ _ _ us vs hn (by simpa using hl) fun i v hv=>list h hv
 ·exact ex1_rel hs hρ h
theorem exM_get:∀{l:List Nat} {bs:List Bk},exM ρ m l=some bs→l.length=bs.length∧∀(i:Nat) (b':Bk),bs[i]?=some b'→∃n b,l[i]?=some n∧m[n]?=some (some b)∧b'=b.ex ρ m
 |[],bs,h=>by cases h;exact⟨rfl,fun i b' hb=>by simp at hb⟩
 |n::l,bs,h=>by
  simp only[exM] at h
  split at h
  ·rename_i b bs' h1 h2
   cases h
   obtain⟨e1,e2⟩:=exM_get h2
   refine⟨by simp[e1],fun i b' hb=>?_⟩
   cases i with
   |zero=>simp at hb;subst hb;exact⟨n,b,by simp,h1,rfl⟩
   |succ i=>simpa using e2 i b' (by simpa using hb)
  ·cases h
theorem exM_mem {l:List Nat} {bs:List Bk} (h:exM ρ m l=some bs):∀n∈l,∃b,m[n]?=some (some b):=by
 obtain⟨h1,h2⟩:=exM_get h
 intro n hn
 obtain⟨i,hi,rfl⟩:=List.getElem_of_mem hn
 obtain⟨n',b,h3,h4,_⟩:=h2 i _ (List.getElem?_eq_getElem (by omega))
 rw[List.getElem?_eq_getElem hi] at h3;cases h3
 exact⟨b,h4⟩
theorem exM_ok (hs:Sat B w0 N S t m a w) (hd:distinctB ρ=true) {bs:List Bk} (h:exM ρ m ρ=some bs):MemOk w0.heap.size (newS B.old w0 w (valsOf N ρ)) w (valsOf N ρ) bs:=by
 have hρ:=exM_mem h
 obtain⟨h1,h2⟩:=exM_get h
 have hget:∀{i:Nat} {v:Value},(valsOf N ρ)[i]?=some v→∃n x,ρ[i]?=some n∧N n=some (x,v):=by
  intro i v hv
  simp only[valsOf,List.getElem?_map,Option.map_eq_some_iff] at hv
  obtain⟨n,hn,rfl⟩:=hv
  obtain⟨b,hb⟩:=hρ n (List.mem_of_getElem? hn)
  have:=hs.blk n b hb
  cases b with
  |box cs=>obtain⟨g,ty,us,e,_⟩:=this;exact⟨n,_,hn,by rw[e];rfl⟩
  |row k E sz f xs=>obtain⟨v,us,e,_⟩:=this;exact⟨n,_,hn,by rw[e];rfl⟩
  |fz k E bs=>obtain⟨g,cap,us,fr,e,_⟩:=this;exact⟨n,_,hn,by rw[e];rfl⟩
 refine⟨by simp[valsOf,h1],fun k b' hb'=>?_,fun j k u v g hj hk hu hv=>?_,fun f g hg=>⟨hg.1,hg.2.1⟩,fun g hg=>?_,hs.inv,fun g hg hb=>by
  obtain⟨n,_,x,v,h3,h4⟩:=blks_valsOf hρ hs hb
  exact(hs.own n x v g h3 h4).1 (hs.more.inv.2 g hg)⟩
 ·obtain⟨n,b,h3,h4,rfl⟩:=h2 k b' hb'
  have hH:=hs.blk n b h4
  cases b with
  |box cs=>
   obtain⟨g,ty,us,e1,e2,e3,e4⟩:=hH
   refine⟨g,ty,us,valsOf_names h3 e1,e2,by simpa using e3,fun i v hv=>?_⟩
   rw[List.getElem?_map,Option.map_eq_some_iff] at hv
   obtain⟨v',hv',rfl⟩:=hv
   exact ex_rel hs hρ (e4 i v' hv')
  |row k' E sz f xs=>
   obtain⟨v,us,e1,e2,e3,e4,e5,e6⟩:=hH
   refine⟨v,us,valsOf_names h3 e1,e2,e3,e4,fun i j d hd'=>?_,e6⟩
   obtain⟨u,hu,hr⟩:=e5 i j d hd'
   refine⟨u,hu,hr.mono (fun g hg=>?_) fun _ _=>rfl⟩
   refine⟨(hs.data f g hg).1,fun hb=>?_,?_⟩
   ·obtain⟨n',_,x,v',a1,a2⟩:=blks_valsOf hρ hs hb
    exact(hs.data f g hg).2 n' x v' a1 a2
   ·cases f with
    |true=>exact .inl (hs.fresh g hg).2
    | false => rcases hs.old g hg with h|h
               · exact .inl h
               · exact .inr ⟨rfl,h⟩
  |fz k' E bs=>
   obtain⟨g,cap,us,fr,e1,e2⟩:=hH
   exact⟨g,cap,us,fr,valsOf_names h3 e1,e2⟩
 ·obtain⟨n,x,a1,a2⟩:=hget hj
  obtain⟨n',x',b1,b2⟩:=hget hk
  have:=hs.apart n n' _ _ _ _ g a2 b2 hu hv
  subst this
  exact distinctB_spec hd j k n a1 b1
 ·obtain⟨n,_,x,v,h3,h4⟩:=blks_valsOf hρ hs hg
  exact(hs.own n x v g h3 h4).2
end
end Go.Proofs.YtglndfgmlminpaaGreatDoor
namespace Go.Proofs.YtglndfgmlminpaaGreatDoor
open Go.RowKit
def upto:Nat→Nat→List Nat
 |_,0=>[]
 |b,n+1=>b::upto (b+1) n
def preB:List Nat→List Nat→Bool
 |[],_=>true
 |a::l,b::l'=>match Nat.beq a b with
  |true=>preB l l'
  |false=>false
 |_::_,[]=>false
def rawL (T:Tab) (t:List V) (m:List (Option Bk)):List ResultVar→(List V→Prop)→Prop
 |[],K=>K []
 |r::l,K=>match resV T t m r with
  |some v=>v.k fun v=>rawL T t m l fun vs=>K (v::vs)
  |none=>False
def exL (T:Tab) (ρ:List Nat) (m:List (Option Bk)):List V→List TypeId→List V
 |[],_=>[]
 |v::vs,ty::tys=>(v.ex ρ m).z (czs T 5 ty)::exL T ρ m vs tys
 |v::vs,[]=>v.ex ρ m::exL T ρ m vs []
def tupV:List V→V
 |[v]=>v
 |vs=> .tu vs
def kidsOf (m:List (Option Bk)) (n:Nat):List Nat:=match m[n]? with
 |some (some b)=>b.names
 |_=>[]
def DoneM (sd:List V→List Nat) (T:Tab) (fn:Func) (nl:Nat) (res:V) (m':List Bk):Ex→St→Prop
 | .exit _,_=>False
 |_,⟨t,m⟩=>rawL T t m fn.results.toList fun vs=>revK (reach m 64 ((upto fn.ntmps nl).flatMap (kidsOf m)++sd vs) (upto fn.ntmps nl).reverse) [] fun ρ=>
  (distinctB ρ&&preB (upto fn.ntmps nl) ρ)=true∧exM ρ m ρ=some m'∧tupV (exL T ρ m vs fn.resultTypes.toList)=res
def enterMK (fn:Func) (args:List V) (m:List Bk) (K:St→Prop):Prop:=
 forceAll (args.map (V.sh fn.ntmps)++List.replicate (fn.ntmps - args.length) .un) fun t=>forceM (inM fn.ntmps m) fun m=>K ⟨t,m⟩
def BodyM (sd:List V→List Nat) (P:Program) (T:Tab) (fn:Func) (args:List V) (m:List Bk) (res:V) (m':List Bk):Prop:=
 match fn.body with
 |some c=>enterMK fn args m fun st=>awp P T c st (DoneM sd T fn m.length res m')
 |none=>False
section
variable {P:Program} {T:Tab} {B:Fr} {w0:World} {N:Names} {S:Sets} {t t':List V} {m m':List (Option Bk)} {a:Act} {w:World} {ρ:List Nat}
theorem revK_eq:∀(l acc:List Nat) (K:List Nat→Prop),revK l acc K=K (l.reverse++acc)
 |[],acc,K=>rfl
 |n::l,acc,K=>by simp[revK,revK_eq l]
theorem upto_get:∀(b n k:Nat),k<n→(upto b n)[k]?=some (b+k)
 |b,0,k,h=>by omega
 |b,n+1,0,h=>by simp[upto]
 |b,n+1,k+1,h=>by simp only[upto,List.getElem?_cons_succ];rw[upto_get (b+1) n k (by omega)];congr 1;omega
theorem upto_length:∀(b n:Nat),(upto b n).length=n
 |b,0=>rfl
 |b,n+1=>by simp[upto,upto_length]
theorem preB_spec:∀{l l':List Nat},preB l l'=true→l.length≤l'.length∧∀(i n:Nat),l[i]?=some n→l'[i]?=some n
 |[],l',_=>⟨by simp,fun i n h=>by simp at h⟩
 |a::l,[],h=>by simp[preB] at h
 |a::l,b::l',h=>by
  simp only[preB] at h
  split at h
  ·rename_i hb
   have:=Nat.eq_of_beq_eq_true hb
   subst this
   obtain⟨h1,h2⟩:=preB_spec h
   refine⟨by simp[h1],fun i n hi=>?_⟩
   cases i with
   |zero=>simpa using hi
   |succ i=>simpa using h2 i n (by simpa using hi)
  ·cases h
theorem rawL_sound (hT:TOk P T) (hs:Sat B w0 N S t m a w):∀(rs:List ResultVar) {K:List V→Prop},rawL T t m rs K→
  ∃us vs,(rs.mapM (resR a)).run P w= .ok us w∧RelL N S w vs us∧K vs
 |[],K,h=>⟨[],[],rfl,⟨rfl,by simp⟩,h⟩
 |r::rs,K,h=>by
  simp only[rawL] at h
  split at h
  rotate_left
  ·cases h
  rename_i v hv
  rw[k_eq] at h
  obtain⟨u,h1,h2⟩:=resV_sound hT hs hv
  obtain⟨us,vs,h3,h4,h5⟩:=rawL_sound hT hs rs h
  refine⟨u::us,v::vs,?_,⟨by simp[h4.1],fun i v' hv'=>?_⟩,h5⟩
  ·rw[List.mapM_cons]
   simp only[Sem.run_bind,h1,h3,Sem.run_pure,Result.andThen_ok]
  ·cases i with
   |zero=>simp at hv';subst hv';exact h2
   |succ i=>simpa using h4.2 i v' (by simpa using hv')
theorem exL_rel (hs:Sat B w0 N S t m a w) (hρ:∀n∈ρ,∃b,m[n]?=some (some b)):∀{vs:List V} {us:List Value} (tys:List TypeId),RelL N S w vs us→RelL (NamesOf (valsOf N ρ)) (newS B.old w0 w (valsOf N ρ)) w (exL T ρ m vs tys) us
 |[],us,tys,h=>by
  have e:exL T ρ m [] tys=[]:=by cases tys<;>rfl
  rw[e]
  exact⟨h.1,fun i v hv=>by simp at hv⟩
 |v::vs,us,tys,h=>by
  cases us with
  |nil=>have:=h.1;simp at this
  |cons u us=>
   have hv:=ex_rel hs hρ (by simpa using h.2 0 v rfl)
   have htl:RelL N S w vs us:=⟨by simpa using h.1,fun i v' hv'=>by simpa using h.2 (i+1) v' (by simpa using hv')⟩
   have mk:∀{v':V} {vs':List V},RelV (NamesOf (valsOf N ρ)) (newS B.old w0 w (valsOf N ρ)) w v' u→RelL (NamesOf (valsOf N ρ)) (newS B.old w0 w (valsOf N ρ)) w vs' us→RelL (NamesOf (valsOf N ρ)) (newS B.old w0 w (valsOf N ρ)) w (v'::vs') (u::us):=by
    intro v' vs' h1 h2
    refine⟨by simp[h2.1],fun i x hx=>?_⟩
    cases i with
    |zero=>simp at hx;subst hx;exact h1
    |succ i=>simpa using h2.2 i x (by simpa using hx)
   cases tys with
   |nil=>exact mk hv (exL_rel hs hρ [] htl)
   |cons ty tys=>exact mk (z_rel _ hv) (exL_rel hs hρ tys htl)
theorem doneM_ret {sd:List V→List Nat} (hT:TOk P T) {fn:Func} {m0:List Bk} {res:V} {m1:List Bk} {w:World} {ns:List Value} {So:Nat→Prop} (hmem:MemOk w.heap.size (oldS So) w ns m0):
  ∀(a:Act) (w':World),OkSt (frM w ns So fn.ntmps) w (DoneM sd T fn m0.length res m1 .ret) a w'→a.defers=[]∧∃v,(results fn a.tmps).run P w'= .ok v w'∧
    ∃v' ns',Ending.returned v= .returned v'∧MemOk w.heap.size (newS So w w' ns') w' ns' m1∧RelV (NamesOf ns') (newS So w w' ns') w' res v'∧
     Low (fun g=>g<w.heap.size∧¬blks ns g) w w'∧ns.length≤ns'.length∧(∀(k:Nat) (a:Addr),ns[k]?=some (.pointer (some a))→ns'[k]?=some (.pointer (some a)))∧(∀g,blks ns' g→blks ns g∨w.heap.size≤g)∧(false=true→∀(k:Nat) (v:Value),ns[k]?=some v→ns'[k]?=some v)∧
     (∀(k:Nat) (v v':Value) (g:Nat),ns[k]?=some v→ns'[k]?=some v'→atOf v'=some g→atOf v=some g∨w.heap.size≤g):=by
 rintro a w' ⟨N,S,t,m,hs,h⟩
 simp only[DoneM] at h
 obtain⟨us,vs',h1,h2,h3⟩:=rawL_sound hT hs _ h
 rw[revK_eq] at h3
 generalize (reach m 64 ((upto fn.ntmps m0.length).flatMap (kidsOf m)++sd vs') (upto fn.ntmps m0.length).reverse).reverse++[]=ρ at h3
 obtain⟨h3,h4,h5⟩:=h3
 simp only[Bool.and_eq_true] at h3
 obtain⟨hd,hp⟩:=h3
 have hρ:=exM_mem h4
 have hok:=exM_ok hs hd h4
 have hrel:=exL_rel (T:=T) hs hρ fn.resultTypes.toList h2
 obtain⟨hp1,hp2⟩:=preB_spec hp
 rw[upto_length] at hp1
 have hrest:Low (fun g=>g<w.heap.size∧¬blks ns g) w w'∧ns.length≤(valsOf N ρ).length∧(∀(k:Nat) (a:Addr),ns[k]?=some (.pointer (some a))→(valsOf N ρ)[k]?=some (.pointer (some a)))∧(∀g,blks (valsOf N ρ) g→blks ns g∨w.heap.size≤g)∧(false=true→∀(k:Nat) (v:Value),ns[k]?=some v→(valsOf N ρ)[k]?=some v)∧
   (∀(k:Nat) (v v':Value) (g:Nat),ns[k]?=some v→(valsOf N ρ)[k]?=some v'→atOf v'=some g→atOf v=some g∨w.heap.size≤g):=by
  refine⟨hs.low,by rw[hmem.len];simpa[valsOf] using hp1,fun k a hk=>?_,fun g hg=>?_,(fun h=>by cases h),fun k v v' g hv hv' hg=>?_⟩
  rotate_right
  ·have hlt:=lt_of_get hv
   rw[hmem.len] at hlt
   obtain⟨_,x,v1,c2,c3⟩:=hs.stay (fn.ntmps+k) (atOf v) (by simp[frM,hv])
   have:=valsOf_get (hp2 k _ (upto_get _ _ _ hlt)) c2
   rw[hv'] at this;cases this
   exact c3 g hg
  ·have hlt:=lt_of_get hk
   rw[hmem.len] at hlt
   have:=(hs.lent (fn.ntmps+k) a (by simp[frM,hk])).2.2
   exact valsOf_get (hp2 k _ (upto_get _ _ _ hlt)) this
  ·obtain⟨n,_,x,v,h6,h7⟩:=blks_valsOf hρ hs hg
   have:=(hs.own n x v g h6 h7).1
   simp only[frM,not_and,Classical.not_not] at this
   rcases Nat.lt_or_ge g w.heap.size with h|h
   ·exact .inl (this h)
   ·exact .inr h
 have hrun:∀v,(if h:us.toArray.size=1 then us.toArray[0] else .tuple us.toArray)=v→(results fn a.tmps).run P w'= .ok v w':=by
  intro v hv
  unfold results
  rw[Array.mapM_eq_mapM_toList]
  change Sem.run P (do
   let vs ←List.toArray<$>fn.results.toList.mapM (resR a)
   pure (if h:vs.size=1 then vs[0] else Value.tuple vs)) w'=_
  simp only[Sem.run_bind,Sem.run_map,h1,Result.andThen_ok,Sem.run_pure,hv]
 refine⟨hs.nodef,?_⟩
 generalize exL T ρ m vs' fn.resultTypes.toList=rs at hrel h5
 subst h5
 unfold tupV
 split
 ·rename_i v
  obtain⟨u,rfl⟩:∃u,us=[u]:=by
   have:=hrel.1
   match us,this with
   |[u],_=>exact⟨u,rfl⟩
  exact⟨u,hrun u rfl,u,valsOf N ρ,rfl,hok,by simpa[frM] using hrel.2 0 _ rfl,hrest⟩
 ·rename_i hne
  have hsz:us.toArray.size≠1:=by
   intro e
   have:us.length=1:=by simpa using e
   have h4:=hrel.1
   rw[this] at h4
   match rs,h4 with
   |[v],_=>exact hne v rfl
  refine⟨.tuple us.toArray,hrun _ (by rw[dif_neg hsz]),_,valsOf N ρ,rfl,hok,.tu _ _ (by simpa using hrel.1) fun i v hv=>?_,hrest⟩
  have:=hrel.2 i v hv
  rw[←getD_toList];simpa[frM] using this
theorem mcalls_of {sd:List V→List Nat} (hT:TOk P T) (hm:P.follows .mixedOrders=true) {f:FuncId} {fn:Func} (hf:P.funcs[f]?=some fn) (hn:(fn.name== "runtime.NumGoroutine")=false) {args:List V} {m0:List Bk} {res:V} {m1:List Bk}
  (h16:(decide (args.length≤fn.ntmps)&&decide (m0.length≤16))=true) (h:BodyM sd P T fn args m0 res m1):MCalls P f args m0 res m1:=by
 simp only[Bool.and_eq_true,decide_eq_true_eq] at h16
 unfold BodyM at h
 cases hb:fn.body with
 |none=>rw[hb] at h;exact h.elim
 |some c=>
  rw[hb] at h
  refine⟨⟨fn,hf,hn,by rw[hb];rfl⟩,fun w vs ns So hmem hvs=>?_⟩
  simp only[enterMK,forceAll_eq,forceM_eq] at h
  refine calls_of_wp hf hb (Go.wp_mono (awp_sound (B:=frM w ns So fn.ntmps) (w0:=w) hT hm ⟨by intro p hp;simp[frM] at hp,rfl⟩ c _ _ w ⟨_,_,_,_,sat_enterM hmem hvs fn.ntmps h16.1 h16.2,h⟩) ?_)
  have key:=doneM_ret (P:=P) (sd:=sd) (fn:=fn) (res:=res) (m1:=m1) hT hmem
  intro e a w' h
  cases e<;>simp only[QK] at h<;>first|exact h.elim|skip
  ·exact key a w' h
  ·obtain⟨N,S,t,m,hs,h⟩:=h;exact h.elim
  ·exact key a w' h
end
end Go.Proofs.YtglndfgmlminpaaGreatDoor
