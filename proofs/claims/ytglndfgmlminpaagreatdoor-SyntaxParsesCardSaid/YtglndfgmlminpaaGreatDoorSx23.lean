/- Texts joined by pack.py: XSyPE XSyPF XSyPG XSyPH XSyX0 XSxE2 -/
import Derived.Test.YtglndfgmlminpaaGreatDoorSx22
import Derived.Test.YtglndfgmlminpaaGreatDoorSx20
import Derived.Test.YtglndfgmlminpaaGreatDoorSx15
import Derived.Laws.StructEq
namespace Go.Proofs.YtglndfgmlminpaaGreatDoor
def nestF (l:List Nd):Nat→Nat→Nat
 |0,_=>0
 |f+1,i=>match l[i]? with
  |none=>0
  |some n=>n.kids.foldl (fun m k=>max m (nestF l f k.toNat)) 0+1
theorem seg_first {l:List Nd} {T:Tr} {a:Nat} (hw:T.wf=true) (h:T.flat a<+:l.drop a):Seg l T a (a+T.size - 1):=⟨hw,by have:=T.size_pos;omega,h⟩
theorem nest_kids {l:List Nd} {F:Nat→Nat}:∀(Ts:List Tr) (a m:Nat),(∀T∈Ts,∀a i,Seg l T a i→F i=T.ht)→(∀T∈Ts,T.wf=true)→Tr.flats a Ts<+:l.drop a→
  (Tr.roots a Ts).foldl (fun m k=>max m (F k.toNat)) m=max m (Tr.hts Ts)
 |[],a,m,_,_,_=>by simp[Tr.roots,Tr.hts]
 |T::Ts,a,m,hF,hw,h=>by
  simp only[Tr.flats] at h
  rw[prefix_app,Tr.flat_length] at h
  have hs:=seg_first (hw T (by simp)) h.1
  have hpos:=T.size_pos
  simp only[Tr.roots,List.foldl_cons,Tr.hts]
  rw[show(((a+T.size:Nat):Int) - 1).toNat=a+T.size - 1 by omega,hF T (by simp) _ _ hs]
  rw[nest_kids Ts (a+T.size) _ (fun X hX=>hF X (by simp[hX])) (fun X hX=>hw X (by simp[hX])) h.2]
  omega
theorem nestF_seg {l:List Nd}:∀(f:Nat) (T:Tr) (a i:Nat),T.ht≤f→Seg l T a i→nestF l f i=T.ht
 |0,T,a,i,h,_=>by cases T;simp[Tr.ht] at h
 |f+1,T,a,i,h,hs=>by
  obtain⟨b,ts⟩:=T
  obtain⟨hf,hc,hws⟩:=wf_parts hs.wf
  have hlen:=hs.len
  have hseg:=hs.seg
  simp only[Tr.size] at hlen
  simp only[Tr.flat] at hseg
  rw[prefix_app,Tr.flats_length] at hseg
  have hi:l[i]?=some ⟨b.kind,b.text,b.val,b.keys,Tr.roots a ts⟩:=by
   have:=prefix_get hseg.2 (j:=0) (by simp)
   rw[show i=a+Tr.sizes ts+0 by omega,this]
   rfl
  simp only[nestF,hi,Tr.ht]
  rw[nest_kids ts a 0 (fun T hT a i hs=>nestF_seg f T a i (by have:=Tr.ht_mem hT;simp only[Tr.ht] at h;omega) hs) (fun X hX=>kid_wf hX hws) hseg.1]
  omega
def deepF (p:Pg):Nat:=p.funcs.foldl (fun m f=>max m (nestF p.nodes (p.nodes.length+1) f.body.toNat)) 0
def checkP (p:Pg):Int:=
 if 600<p.nodes.length∨16<p.funcs.length then 3
 else if ordB p=false then 1
 else if p.funcs.any (fun f=>decide (8<f.params.length))=true∨32<deepF p then 3
 else 0
def parseP (s:Bs):Pg×Int×Int:=
 if(tokens s).2.2≠0 then(⟨[],[]⟩,(tokens s).2.1,(tokens s).2.2)
 else match progP s.length (tokens s).1 with
  | .error o=>(⟨[],[]⟩,o,1)
  | .ok p=>if checkP p≠0 then(⟨[],[]⟩,0,3) else(p,0,0)
end Go.Proofs.YtglndfgmlminpaaGreatDoor
namespace Go.Proofs.YtglndfgmlminpaaGreatDoor
theorem Tr.mem_size:∀{l:List Tr} {X:Tr},X∈l→X.size≤Tr.sizes l
 |[],X,h=>by cases h
 |y::l,X,h=>by
  simp only[Tr.sizes]
  rcases List.mem_cons.1 h with rfl|h
  ·omega
  ·have:=Tr.mem_size h;omega
theorem Tr.ht_size:∀(m:Nat) (T:Tr),T.size≤m→T.ht≤T.size
 |0,T,h=>by have:=T.size_pos;omega
 |m+1,T,h=>by
  obtain⟨a,ts⟩:=T
  simp only[Tr.size] at h
  simp only[Tr.ht,Tr.size]
  have:Tr.hts ts≤Tr.sizes ts:=hts_le fun X hX=>by
   have h2:=Tr.mem_size hX
   have:=Tr.ht_size m X (by omega)
   omega
  omega
theorem Seg.len_le {l:List Nd} {T:Tr} {a i:Nat} (h:Seg l T a i):i<l.length∧T.ht≤l.length+1:=by
 have h1:=h.seg.length_le
 have h2:=h.len
 have h3:=T.size_pos
 rw[Tr.flat_length,List.length_drop] at h1
 have:=Tr.ht_size _ T (Nat.le_refl _)
 exact⟨by omega,by omega⟩
abbrev F0 (l:List Nd) (i:Nat):Option Nat:=firstF l (l.length+1) i
theorem F0_seg {l:List Nd} {i a:Nat} (h:F0 l i=some a):∃T,Seg l T a i:=firstF_spec _ _ _ h
theorem seg_F0 {l:List Nd} {T:Tr} {i a:Nat} (h:Seg l T a i):F0 l i=some a:=firstF_good _ T a i h.len_le.2 h
theorem F0_le {l:List Nd} {i a:Nat} (h:F0 l i=some a):a≤i:=by
 obtain⟨T,hT⟩:=F0_seg h
 have:=hT.len
 have:=T.size_pos
 omega
theorem seg_sub {l:List Nd}:∀(m:Nat) (T:Tr) (a i:Nat),T.size≤m→Seg l T a i→∀j,a≤j→j≤i→∃b,F0 l j=some b∧a≤b
 |0,T,a,i,h,_,_,_,_=>by have:=T.size_pos;omega
 |m+1,T,a,i,h,hs,j,h1,h2=>by
  rcases Nat.lt_or_ge j i with h3|h3
  rotate_left
  ·obtain rfl:j=i:=by omega
   exact⟨a,seg_F0 hs,Nat.le_refl _⟩
  obtain⟨b,ts⟩:=T
  obtain⟨hf,hc,hws⟩:=wf_parts hs.wf
  have hlen:=hs.len
  have hseg:=hs.seg
  simp only[Tr.size] at hlen h
  simp only[Tr.flat] at hseg
  rw[prefix_app,Tr.flats_length] at hseg
  have key:∀(ts:List Tr) (a:Nat),(∀X∈ts,X.size≤m)→(∀X∈ts,X.wf=true)→Tr.flats a ts<+:l.drop a→a≤j→j<a+Tr.sizes ts→∃b,F0 l j=some b∧a≤b:=by
   intro ts
   induction ts with
   |nil=>intro a _ _ _ g1 g2;simp only[Tr.sizes] at g2;omega
   |cons X ts ih=>
    intro a hm hw hp g1 g2
    simp only[Tr.flats] at hp
    simp only[Tr.sizes] at g2
    rw[prefix_app,Tr.flat_length] at hp
    have hX:=seg_first (hw X (by simp)) hp.1
    rcases Nat.lt_or_ge j (a+X.size) with h4|h4
    ·exact seg_sub m X a _ (hm X (by simp)) hX j g1 (by omega)
    ·obtain⟨b,k1,k2⟩:=ih (a+X.size) (fun Y hY=>hm Y (by simp[hY])) (fun Y hY=>hw Y (by simp[hY])) hp.2 h4 (by omega)
     exact⟨b,k1,by omega⟩
  exact key ts a (fun X hX=>by have:=Tr.mem_size hX;omega) (fun X hX=>kid_wf hX hws) hseg.1 h1 (by omega)
def kidM (low:Nat) (sz ht:List Nat):List Int→Nat→Nat→Option (Nat×Nat)
 |[],c,top=>some (c,top)
 |x::xs,c,top=>if x=(c:Int) - 1∧low<c then kidM low sz ht xs (c - sz.getD (c - 1) 0) (max top (ht.getD (c - 1) 0)) else none
def kindAt (l:List Nd) (x:Int):Int:=((l[x.toNat]?.map (·.kind)).getD 0)
def fitsL (l:List Nd) (kind:Int):Nat→List Int→Bool
 |_,[]=>true
 |j,x::xs=>fitsB kind j (kindAt l x)&&fitsL l kind (j+1) xs
theorem fitsL_append (l:List Nd) (kind:Int):∀(a c:List Int) (j:Nat),fitsL l kind j (a++c)=(fitsL l kind j a&&fitsL l kind (j+a.length) c)
 |[],c,j=>by simp[fitsL]
 |x::a,c,j=>by simp only[List.cons_append,fitsL,fitsL_append l kind a c,List.length_cons,Bool.and_assoc,Nat.add_assoc,Nat.add_comm 1]
def partsB (l:List Nd) (n:Nd):Bool:=countB n.kind n.kids.length&&fitsL l n.kind 0 n.kids
def nodeM (l:List Nd) (low:Nat) (sz ht:List Nat) (i:Nat) (n:Nd):Option (Nat×Nat):=
 match kidM low sz ht n.kids.reverse i 0 with
 |none=>none
 |some (c,top)=>if fieldsB ⟨n.kind,n.text,n.val,n.keys⟩ n.kids.length&&partsB l n then some (i+1 - c,top+1) else none
structure MInv (l:List Nd) (low:Nat) (sz ht:List Nat):Prop where
 len:ht.length=sz.length
 get:∀j,low≤j→j<sz.length→F0 l j=some (j+1 - sz.getD j 0)∧low≤j+1 - sz.getD j 0∧(1≤sz.getD j 0∧sz.getD j 0≤j+1)
 hts:∀j,low≤j→j<sz.length→ht.getD j 0=nestF l (l.length+1) j
theorem kidM_top {low:Nat} {sz ht:List Nat}:∀(xs:List Int) (c top a t:Nat),kidM low sz ht xs c top=some (a,t)→t=xs.foldl (fun m k=>max m (ht.getD k.toNat 0)) top
 |[],c,top,a,t,h=>by simp only[kidM,Option.some.injEq,Prod.mk.injEq] at h;simp[h.2]
 |x::xs,c,top,a,t,h=>by
  simp only[kidM] at h
  split at h
  rotate_left
  ·cases h
  rename_i hx
  have:=kidM_top xs _ _ a t h
  rw[this,List.foldl_cons,show x.toNat=c - 1 by omega]
theorem kidM_back {l:List Nd} {low:Nat} {sz ht:List Nat} (hI:MInv l low sz ht) {kind:Int}:∀(xs:List Int) (c top a t:Nat),c≤sz.length→low≤c→kidM low sz ht xs c top=some (a,t)→fitsL l kind 0 xs.reverse=true→
  backF l (F0 l) kind xs c=some a∧low≤a∧a≤c∧∀k∈xs,low≤k.toNat∧k.toNat<c
 |[],c,top,a,t,hc,hl,h,_=>by
  simp only[kidM,Option.some.injEq,Prod.mk.injEq] at h
  obtain⟨rfl,rfl⟩:=h
  exact⟨rfl,hl,Nat.le_refl _,fun k h=>by cases h⟩
 |x::xs,c,top,a,t,hc,hl,h,hf=>by
  simp only[kidM] at h
  split at h
  rotate_left
  ·cases h
  rename_i hx
  rw[List.reverse_cons,fitsL_append,Bool.and_eq_true] at hf
  obtain⟨g1,g2,g3⟩:=hI.get (c - 1) (by omega) (by omega)
  have e:c - 1+1 - sz.getD (c - 1) 0=c - sz.getD (c - 1) 0:=by omega
  rw[e] at g1 g2
  obtain⟨k1,k2,k3,k4⟩:=kidM_back hI (kind:=kind) xs _ _ a t (by omega) g2 h hf.1
  refine⟨?_,k2,by omega,?_⟩
  ·have hf2:=hf.2
   simp only[fitsL,Bool.and_true,List.length_reverse,Nat.zero_add,kindAt,show x.toNat=c - 1 by omega] at hf2
   simp only[backF]
   rw[if_neg,g1]
   ·exact k1
   ·simp only[not_or,Nat.not_lt,ne_eq,Classical.not_not,Bool.not_eq_false]
    exact⟨by omega,hx.1,hf2⟩
  ·intro k hk
   rcases List.mem_cons.1 hk with rfl|hk
   ·omega
   ·have:=k4 k hk;omega
theorem back_kidM {l:List Nd} {low:Nat} {sz ht:List Nat} (hI:MInv l low sz ht) {kind:Int}:∀(xs:List Int) (c top a:Nat),c≤sz.length→low≤a→backF l (F0 l) kind xs c=some a→
  a≤c∧(∃t,kidM low sz ht xs c top=some (a,t))∧fitsL l kind 0 xs.reverse=true
 |[],c,top,a,hc,ha,h=>by
  cases h
  exact⟨Nat.le_refl _,⟨_,rfl⟩,rfl⟩
 |x::xs,c,top,a,hc,ha,h=>by
  simp only[backF] at h
  split at h
  ·cases h
  rename_i hx
  simp only[not_or,Nat.not_lt,ne_eq,Classical.not_not,Bool.not_eq_false] at hx
  obtain⟨c1,c2,c3⟩:=hx
  split at h
  rotate_left
  ·cases h
  rename_i a1 h1
  have hle:=F0_le h1
  have hle2:a≤a1:=(back_kidM hI xs a1 0 a (by omega) ha h).1
  obtain⟨g1,g2,g3⟩:=hI.get (c - 1) (by omega) (by omega)
  rw[h1] at g1
  have e:a1=c - sz.getD (c - 1) 0:=by have:=Option.some.inj g1;omega
  obtain⟨k1,⟨t,k2⟩,k3⟩:=back_kidM hI xs a1 (max top (ht.getD (c - 1) 0)) a (by omega) ha h
  refine⟨by omega,⟨t,?_⟩,?_⟩
  ·simp only[kidM]
   rw[if_pos ⟨c2,by omega⟩,←e]
   exact k2
  ·rw[List.reverse_cons,fitsL_append,k3]
   simp only[fitsL,Bool.and_true,List.length_reverse,Nat.zero_add,kindAt,show x.toNat=c - 1 by omega,Bool.true_and]
   exact c3
theorem foldl_max (g:Int→Nat):∀(xs:List Int) (m n:Nat),xs.foldl (fun m k=>max m (g k)) (max m n)=max n (xs.foldl (fun m k=>max m (g k)) m)
 |[],m,n=>by simp;omega
 |x::xs,m,n=>by
  simp only[List.foldl_cons]
  rw[show max (max m n) (g x)=max (max m (g x)) n by omega,foldl_max g xs]
theorem foldl_max_rev (g:Int→Nat):∀(xs:List Int) (m:Nat),xs.reverse.foldl (fun m k=>max m (g k)) m=xs.foldl (fun m k=>max m (g k)) m
 |[],m=>rfl
 |x::xs,m=>by
  simp only[List.reverse_cons,List.foldl_append,List.foldl_cons,List.foldl_nil,foldl_max_rev g xs]
  rw[show max (xs.foldl (fun m k=>max m (g k)) m) (g x)=max (g x) (xs.foldl (fun m k=>max m (g k)) m) by omega,←foldl_max]
theorem foldl_cong {g h:Int→Nat}:∀(xs:List Int) (m:Nat),(∀k∈xs,g k=h k)→xs.foldl (fun m k=>max m (g k)) m=xs.foldl (fun m k=>max m (h k)) m
 |[],m,_=>rfl
 |x::xs,m,e=>by simp only[List.foldl_cons,e x (by simp),foldl_cong xs _ fun k hk=>e k (by simp[hk])]
theorem nodeM_spec {l:List Nd} {low:Nat} {sz ht:List Nat} (hI:MInv l low sz ht) (hl:low≤sz.length) {n:Nd} (hn:l[sz.length]?=some n) {s h:Nat} (hm:nodeM l low sz ht sz.length n=some (s,h)):
  F0 l sz.length=some (sz.length+1 - s)∧low≤sz.length+1 - s∧(1≤s∧s≤sz.length+1)∧h=nestF l (l.length+1) sz.length:=by
 unfold nodeM at hm
 split at hm
 ·cases hm
 rename_i c top hk
 split at hm
 rotate_left
 ·cases hm
 rename_i hok
 simp only[partsB,Bool.and_eq_true] at hok
 obtain⟨k1,k2,k3,k4⟩:=kidM_back hI (kind:=n.kind) _ _ _ c top (Nat.le_refl _) hl hk (by rw[List.reverse_reverse];exact hok.2.2)
 have htop:=kidM_top _ _ _ _ _ hk
 obtain⟨Ts,g1,g2,g3,g4⟩:=backF_spec (fun i a h=>F0_seg h) _ _ _ k1
 rw[List.reverse_reverse] at g4
 have hlT:Ts.length=n.kids.length:=by rw[g4,Tr.roots_length]
 simp only[Option.some.injEq,Prod.mk.injEq] at hm
 obtain⟨rfl,rfl⟩:=hm
 have hseg:Seg l (.node ⟨n.kind,n.text,n.val,n.keys⟩ Ts) c sz.length:=by
  refine⟨?_,?_,?_⟩
  ·simp only[Tr.wf,Bool.and_eq_true,hlT]
   exact⟨⟨hok.1,hok.2.1⟩,g1⟩
  ·simp only[Tr.size];omega
  ·simp only[Tr.flat]
   rw[prefix_app,Tr.flats_length,g2]
   refine⟨g3,?_⟩
   have hlt:sz.length<l.length:=by
    rcases Nat.lt_or_ge sz.length l.length with h'|h'
    ·exact h'
    ·rw[List.getElem?_eq_none h'] at hn;cases hn
   rw[List.drop_eq_getElem_cons hlt]
   have:l[sz.length]=n:=by rw[List.getElem?_eq_getElem hlt] at hn;exact Option.some.inj hn
   rw[this,←g4]
   exact⟨_,rfl⟩
 refine⟨by rw[seg_F0 hseg];congr 1;omega,by omega,by omega,?_⟩
 have hh:=nestF_seg (l.length+1) _ _ _ hseg.len_le.2 hseg
 rw[hh]
 simp only[Tr.ht]
 congr 1
 rw[htop,foldl_max_rev,foldl_cong _ _ (h:=fun k=>nestF l (l.length+1) k.toNat) (fun k hk=>hI.hts _ (k4 k (List.mem_reverse.2 hk)).1 (k4 k (List.mem_reverse.2 hk)).2),g4,
  nest_kids Ts c 0 (fun T hT a i hs=>nestF_seg _ T a i hs.len_le.2 hs) (fun X hX=>kid_wf hX g1) g3]
 omega
theorem nodeM_good {l:List Nd} {low:Nat} {sz ht:List Nat} (hI:MInv l low sz ht) {n:Nd} (hn:l[sz.length]?=some n) {a:Nat} (h:F0 l sz.length=some a) (ha:low≤a):nodeM l low sz ht sz.length n≠none:=by
 obtain⟨T,hs⟩:=F0_seg h
 obtain⟨b,ts⟩:=T
 obtain⟨hf,hc,hws⟩:=wf_parts hs.wf
 have hlen:=hs.len
 have hseg:=hs.seg
 simp only[Tr.size] at hlen
 simp only[Tr.flat] at hseg
 rw[prefix_app,Tr.flats_length] at hseg
 have hi:l[sz.length]?=some ⟨b.kind,b.text,b.val,b.keys,Tr.roots a ts⟩:=by
  have:=prefix_get hseg.2 (j:=0) (by simp)
  rw[show sz.length=a+Tr.sizes ts+0 by omega,this]
  rfl
 rw[hn] at hi
 obtain rfl:=Option.some.inj hi
 have:=backF_good (F:=F0 l) ts a (fun T _ a i hs=>seg_F0 hs) hws hseg.1
 rw[show a+Tr.sizes ts=sz.length by omega] at this
 obtain⟨_,⟨t,k2⟩,k3⟩:=back_kidM hI (kind:=b.kind) _ _ 0 a (Nat.le_refl _) ha this
 rw[List.reverse_reverse] at k3
 unfold nodeM
 rw[k2]
 simp only[Tr.roots_length,partsB,k3,Bool.and_true]
 have hb:b=⟨b.kind,b.text,b.val,b.keys⟩:=by cases b;rfl
 rw[if_pos]
 ·simp
 ·rw[Bool.and_eq_true];exact⟨hf,hc⟩
def runM (l:List Nd) (low:Nat):Nat→List Nat→List Nat→Option (List Nat×List Nat)
 |0,sz,ht=>some (sz,ht)
 |k+1,sz,ht=>match l[sz.length]? with
  |none=>none
  |some n=>match nodeM l low sz ht sz.length n with
   |none=>none
   |some (s,h)=>runM l low k (sz++[s]) (ht++[h])
theorem MInv.snoc {l:List Nd} {low:Nat} {sz ht:List Nat} (hI:MInv l low sz ht) {s h:Nat} (h1:F0 l sz.length=some (sz.length+1 - s)∧low≤sz.length+1 - s∧(1≤s∧s≤sz.length+1)) (h2:h=nestF l (l.length+1) sz.length):MInv l low (sz++[s]) (ht++[h]):=by
 refine⟨by simp[hI.len],fun j a b=>?_,fun j a b=>?_⟩
 ·rw[List.length_append,List.length_singleton] at b
  rcases Nat.lt_or_ge j sz.length with h3|h3
  ·rw[show(sz++[s]).getD j 0=sz.getD j 0 by simp[List.getD_eq_getElem?_getD,List.getElem?_append_left h3]]
   exact hI.get j a h3
  ·obtain rfl:j=sz.length:=by omega
   rw[show(sz++[s]).getD sz.length 0=s by simp[List.getD_eq_getElem?_getD]]
   exact h1
 ·rw[List.length_append,List.length_singleton] at b
  rcases Nat.lt_or_ge j sz.length with h3|h3
  ·rw[show(ht++[h]).getD j 0=ht.getD j 0 by simp[List.getD_eq_getElem?_getD,List.getElem?_append_left (show j<ht.length by rw[hI.len];exact h3)]]
   exact hI.hts j a h3
  ·obtain rfl:j=sz.length:=by omega
   rw[←hI.len,show(ht++[h]).getD ht.length 0=h by simp[List.getD_eq_getElem?_getD],hI.len]
   exact h2
theorem runM_spec {l:List Nd} {low:Nat}:∀(k:Nat) (sz ht sz' ht':List Nat),MInv l low sz ht→low≤sz.length→runM l low k sz ht=some (sz',ht')→MInv l low sz' ht'∧sz'.length=sz.length+k∧sz<+:sz'∧ht<+:ht'
 |0,sz,ht,sz',ht',hI,hl,h=>by
  simp only[runM,Option.some.injEq,Prod.mk.injEq] at h
  obtain⟨rfl,rfl⟩:=h
  exact⟨hI,rfl,List.prefix_refl _,List.prefix_refl _⟩
 |k+1,sz,ht,sz',ht',hI,hl,h=>by
  simp only[runM] at h
  split at h
  ·cases h
  rename_i n hn
  split at h
  ·cases h
  rename_i s g hm
  obtain⟨h1,h2,h3,h4⟩:=nodeM_spec hI hl hn hm
  obtain⟨k1,k2,k3,k4⟩:=runM_spec k _ _ _ _ (hI.snoc ⟨h1,h2,h3⟩ h4) (by simp;omega) h
  refine⟨k1,by rw[k2];simp;omega,(List.prefix_append _ _).trans k3,(List.prefix_append _ _).trans k4⟩
theorem runM_good {l:List Nd} {low:Nat}:∀(k:Nat) (sz ht:List Nat),MInv l low sz ht→low≤sz.length→sz.length+k≤l.length→(∀j,sz.length≤j→j<sz.length+k→∃a,F0 l j=some a∧low≤a)→runM l low k sz ht≠none
 |0,sz,ht,hI,hl,hk,h=>by simp[runM]
 |k+1,sz,ht,hI,hl,hk,h=>by
  simp only[runM]
  rw[List.getElem?_eq_getElem (show sz.length<l.length by omega)]
  obtain⟨a,h1,h2⟩:=h sz.length (Nat.le_refl _) (by omega)
  have hn:=List.getElem?_eq_getElem (show sz.length<l.length by omega)
  dsimp only
  cases hm:nodeM l low sz ht sz.length l[sz.length] with
  |none=>exact absurd hm (nodeM_good hI hn h1 h2)
  |some sh=>
   obtain⟨s,g⟩:=sh
   obtain⟨k1,k2,k3,k4⟩:=nodeM_spec hI hl hn hm
   exact runM_good k _ _ (hI.snoc ⟨k1,k2,k3⟩ k4) (by simp;omega) (by simp;omega) fun j g1 g2=>h j (by simp at g1;omega) (by simp at g2;omega)
def funcsM (l:List Nd):List Fc→List Nat→List Nat→Option (List Nat×List Nat)
 |[],sz,ht=>some (sz,ht)
 |f::fs,sz,ht=>
  if f.body<(sz.length:Int)∨(l.length:Int)≤f.body∨kindAt l f.body≠19∨nameB f.name=false∨f.params.all nameB=false then none
  else match runM l sz.length (f.body.toNat+1 - sz.length) sz ht with
   |none=>none
   |some (sz',ht')=>if sz'.getD f.body.toNat 0=f.body.toNat+1 - sz.length then funcsM l fs sz' ht' else none
theorem MInv.start (l:List Nd) {sz ht:List Nat} (h:ht.length=sz.length):MInv l sz.length sz ht:=⟨h,fun j a b=>by omega,fun j a b=>by omega⟩
theorem kindAt_some {l:List Nd} {x:Int}:(l[x.toNat]?.map (·.kind))=some 19↔kindAt l x=19:=by
 unfold kindAt
 cases l[x.toNat]?<;>simp
theorem funcsM_spec {l:List Nd}:∀(fs:List Fc) (sz ht:List Nat),ht.length=sz.length→match funcsM l fs sz ht with
  |none=>ordF l fs sz.length=none
  |some (sz',ht')=>ordF l fs sz.length=some sz'.length∧sz'.length=ht'.length∧ht<+:ht'∧∀f∈fs,f.body.toNat<ht'.length∧ht'.getD f.body.toNat 0=nestF l (l.length+1) f.body.toNat
 |[],sz,ht,h=>by
  simp only[funcsM,ordF]
  exact⟨trivial,h.symm,List.prefix_refl _,fun f h=>by cases h⟩
 |f::fs,sz,ht,h=>by
  simp only[funcsM,ordF]
  by_cases hb:nameB f.name=false∨f.params.all nameB=false
  ·rw[if_pos (.inr (.inr (.inr hb))),if_pos hb]
  rw[if_neg hb]
  by_cases hc:f.body<(sz.length:Int)∨(l.length:Int)≤f.body∨kindAt l f.body≠19
  ·rw[if_pos (hc.elim .inl fun h=> .inr (h.elim .inl fun h=> .inr (.inl h))),if_pos]
   rcases hc with h|h|h
   ·exact .inl h
   ·exact .inr (.inl h)
   ·exact .inr (.inr (.inl fun e=>h (kindAt_some.1 e)))
  rw[if_neg (fun h=>h.elim (fun h=>hc (.inl h)) fun h=>h.elim (fun h=>hc (.inr (.inl h))) fun h=>h.elim (fun h=>hc (.inr (.inr h))) hb)]
  simp only[not_or,Int.not_lt,Int.not_le,ne_eq,Classical.not_not] at hc
  obtain⟨c1,c2,c3⟩:=hc
  have hI:=MInv.start l h
  have hcond:(f.body<(sz.length:Int)∨(l.length:Int)≤f.body∨(l[f.body.toNat]?.map (·.kind))≠some 19∨firstF l (l.length+1) f.body.toNat≠some sz.length)↔F0 l f.body.toNat≠some sz.length:=by
   constructor
   ·rintro(h|h|h|h)
    ·omega
    ·omega
    ·exact absurd (kindAt_some.2 c3) h
    ·exact h
   ·exact fun h=> .inr (.inr (.inr h))
  have hnone:F0 l f.body.toNat≠some sz.length→(if f.body<(sz.length:Int)∨(l.length:Int)≤f.body∨(l[f.body.toNat]?.map (·.kind))≠some 19∨firstF l (l.length+1) f.body.toNat≠some sz.length then none else ordF l fs (f.body.toNat+1))=none:=fun h=>if_pos (hcond.2 h)
  cases hr:runM l sz.length (f.body.toNat+1 - sz.length) sz ht with
  |none=>
   refine hnone fun e=>?_
   obtain⟨T,hT⟩:=F0_seg e
   exact runM_good _ _ _ hI (Nat.le_refl _) (by omega) (fun j g1 g2=>seg_sub _ T _ _ (Nat.le_refl _) hT j g1 (by omega)) hr
  |some r=>
   obtain⟨sz',ht'⟩:=r
   obtain⟨k1,k2,k3,k4⟩:=runM_spec _ _ _ _ _ hI (Nat.le_refl _) hr
   have hlt:f.body.toNat<sz'.length:=by omega
   obtain⟨g1,g2,g3⟩:=k1.get f.body.toNat (by omega) hlt
   dsimp only
   by_cases he:sz'.getD f.body.toNat 0=f.body.toNat+1 - sz.length
   ·rw[if_pos he]
    rw[he,show f.body.toNat+1 - (f.body.toNat+1 - sz.length)=sz.length by omega] at g1
    rw[if_neg (fun hh=>hcond.1 hh g1)]
    have ih:=funcsM_spec (l:=l) fs sz' ht' k1.len
    rw[show sz'.length=f.body.toNat+1 by omega] at ih
    cases hF:funcsM l fs sz' ht' with
    |none=>rw[hF] at ih;exact ih
    |some r2=>
     obtain⟨sz2,ht2⟩:=r2
     rw[hF] at ih
     obtain⟨i1,i2,i3,i4⟩:=ih
     refine⟨i1,i2,k4.trans i3,fun x hx=>?_⟩
     rcases List.mem_cons.1 hx with rfl|hx
     ·have hl2:x.body.toNat<ht'.length:=by rw[k1.len];exact hlt
      refine⟨Nat.lt_of_lt_of_le hl2 i3.length_le,?_⟩
      rw[←k1.hts x.body.toNat (by omega) hlt]
      obtain⟨q,rfl⟩:=i3
      simp[List.getD_eq_getElem?_getD,List.getElem?_append_left hl2]
     ·exact i4 x hx
   ·rw[if_neg he]
    refine hnone fun e=>he ?_
    rw[e] at g1
    have:=Option.some.inj g1
    omega
def measM (p:Pg):Option (List Nat×List Nat):=match funcsM p.nodes p.funcs [] [] with
 |none=>none
 |some (sz,ht)=>if sz.length=p.nodes.length then some (sz,ht) else none
theorem measM_ord (p:Pg):match measM p with
  |none=>ordB p=false
  |some (_,ht)=>ordB p=true∧∀f∈p.funcs,f.body.toNat<ht.length∧ht.getD f.body.toNat 0=nestF p.nodes (p.nodes.length+1) f.body.toNat:=by
 have h:=funcsM_spec (l:=p.nodes) p.funcs [] [] rfl
 unfold measM ordB
 cases hF:funcsM p.nodes p.funcs [] [] with
 |none=>rw[hF] at h;simpa using by simp only[List.length_nil] at h;rw[h];simp
 |some r=>
  obtain⟨sz,ht⟩:=r
  rw[hF] at h
  obtain⟨h1,h2,h3,h4⟩:=h
  simp only[List.length_nil] at h1
  dsimp only
  split
  ·rename_i heq
   split at heq
   ·cases heq
   ·rename_i hne
    rw[h1]
    simpa using hne
  ·rename_i heq
   split at heq
   ·rename_i he
    cases heq
    rw[h1]
    exact⟨by simpa using he,h4⟩
   ·cases heq
end Go.Proofs.YtglndfgmlminpaaGreatDoor
namespace Go.Proofs.YtglndfgmlminpaaGreatDoor
def Atv (e o:Int) (r:List Tok):Prop:=o=e∨∃t∈r,o=t.at_
theorem Atv.suf {e o:Int} {r r1:List Tok} (h:Atv e o r1) (hs:r1<:+r):Atv e o r:=by
 rcases h with h|⟨t,h1,h2⟩
 ·exact .inl h
 ·exact .inr ⟨t,hs.subset h1,h2⟩
theorem Atv.eats {e o:Int} {r r1:List Tok} (h:Atv e o r1) (hs:Eats r r1):Atv e o r:=h.suf hs.suf
theorem Atv.off (e:Int):∀r:List Tok,Atv e (offT e r) r
 |[]=> .inl rfl
 |t::r=> .inr ⟨t,by simp,rfl⟩
theorem Atv.err {e o:Int} {α:Type} {r:List Tok} (h:(Except.error (offT e r):Except Int α)= .error o):Atv e o r:=by
 cases h;exact .off e r
def AtP (e:Int) (p:Pars):Prop:=∀{r ns o},p r ns= .error o→Atv e o r
theorem mustT_at {e k:Int} {s:Bs} {r:List Tok} {o:Int} (h:mustT e k s r= .error o):Atv e o r:=by
 unfold mustT at h
 split at h
 ·cases h
 ·exact .err h
section
variable {e:Int} {E:Pars} (hE:AtP e E) (hC:EatsP E)
include hE hC
theorem listF_at {fin:Bs}:∀(f:Nat) {l:List Int} {r:List Tok} {ns:List Nd} {o:Int},listF e fin E f l r ns= .error o→Atv e o r
 |0,l,r,ns,o,h=> .err h
 |f+1,l,r,ns,o,h=>by
  simp only[listF] at h
  split at h
  ·rename_i h1;cases h;exact hE h1
  ·rename_i i r1 ns1 h1
   have h2:=hC h1
   split at h
   ·cases h
   ·split at h
    ·rename_i hc
     exact(listF_at f h).eats (h2.trans (.of_tk hc))
    ·exact(Atv.err h).eats h2
theorem listP_at {fin:Bs} {r:List Tok} {ns:List Nd} {o:Int} (h:listP e fin E r ns= .error o):Atv e o r:=by
 unfold listP at h
 split at h
 ·cases h
 ·exact listF_at hE hC _ h
theorem keyF_at:∀(f:Nat) {ks:List Bs} {l:List Int} {r:List Tok} {ns:List Nd} {o:Int},keyF e E f ks l r ns= .error o→Atv e o r
 |0,ks,l,r,ns,o,h=> .err h
 |f+1,ks,l,r,ns,o,h=>by
  simp only[keyF] at h
  split at h
  rotate_left
  ·exact .err h
  rename_i hk
  have h0:=Eats.of_tail hk.2.1
  split at h
  ·rename_i h1;cases h;exact(mustT_at h1).eats h0
  rename_i r1 h1
  have h2:=h0.trans (mustT_eats h1)
  split at h
  ·rename_i h3;cases h;exact(hE h3).eats h2
  rename_i i r3 ns3 h3
  have h4:=h2.trans (hC h3)
  split at h
  ·cases h
  split at h
  ·rename_i hc
   exact(keyF_at f h).eats (h4.trans (.of_tk hc))
  ·exact(Atv.err h).eats h4
theorem keyP_at {r:List Tok} {ns:List Nd} {o:Int} (h:keyP e E r ns= .error o):Atv e o r:=by
 unfold keyP at h
 split at h
 ·cases h
 ·exact keyF_at hE hC _ h
theorem primP_at:AtP e (primP e E):=by
 intro r ns o h
 unfold primP at h
 cases r with
 |nil=>cases h;exact .inl rfl
 |cons t r=>
  have h0:Eats (t::r) r:= .of_tail (by simp)
  dsimp only at h
  split at h
  ·cases h
  split at h
  ·cases h
  split at h
  ·cases h
  split at h
  ·cases h
  split at h
  ·cases h
  split at h
  ·split at h
   ·rename_i hk
    split at h
    ·rename_i h2;cases h;exact(listP_at hE hC h2).eats (h0.trans (.of_tk hk))
    ·cases h
   ·cases h
  split at h
  ·split at h
   ·rename_i h2;cases h;exact(mustT_at h2).eats h0
   ·rename_i h2
    split at h
    ·rename_i h3;cases h;exact(listP_at hE hC h3).eats (h0.trans (mustT_eats h2))
    ·cases h
  split at h
  ·split at h
   ·rename_i h2;cases h;exact(listP_at hE hC h2).eats h0
   ·cases h
  split at h
  ·exact(keyP_at hE hC h).eats h0
  split at h
  ·split at h
   ·rename_i h2;cases h;exact(hE h2).eats h0
   ·rename_i h2
    split at h
    ·rename_i h3;cases h;exact(mustT_at h3).eats (h0.trans (hC h2))
    ·cases h
  ·cases h;exact .inr ⟨t,by simp,rfl⟩
theorem postF_at:∀(f:Nat) {i:Int} {r:List Tok} {ns:List Nd} {o:Int},postF e E f i r ns= .error o→Atv e o r
 |0,i,r,ns,o,h=>by cases h
 |f+1,i,r,ns,o,h=>by
  simp only[postF] at h
  split at h
  rotate_left
  ·cases h
  rename_i hk
  have h0:Eats r r.tail:= .of_tk hk
  split at h
  ·rename_i h1;cases h;exact(hE h1).eats h0
  rename_i k r1 ns1 h1
  have h2:=h0.trans (hC h1)
  split at h
  ·rename_i h3;cases h;exact(mustT_at h3).eats h2
  ·rename_i h3
   exact(postF_at f h).eats (h2.trans (mustT_eats h3))
theorem postP_at:AtP e (postP e E):=by
 intro r ns o h
 unfold postP at h
 split at h
 ·rename_i h1;cases h;exact primP_at hE hC h1
 ·rename_i h1
  exact(postF_at hE hC _ h).eats (primP_eats hC h1)
theorem unaryP_at:AtP e (unaryP e E):=by
 intro r
 induction r with
 |nil=>intro ns o h;exact postP_at hE hC h
 |cons t r ih=>
  intro ns o h
  simp only[unaryP] at h
  split at h
  ·split at h
   ·rename_i h1;cases h;exact(ih h1).eats (.of_tail (by simp))
   ·cases h
  ·exact postP_at hE hC h
omit hE hC in
theorem chainF_at {k:Int} {ops:List Bs} {O:Pars} (hO:AtP e O) (hOC:EatsP O):∀(f:Nat) {i:Int} {r:List Tok} {ns:List Nd} {o:Int},chainF k ops O f i r ns= .error o→Atv e o r
 |0,i,r,ns,o,h=>by cases h
 |f+1,i,r,ns,o,h=>by
  simp only[chainF] at h
  split at h
  rotate_left
  ·cases h
  rename_i hk
  have h0:Eats r r.tail:= .of_tail hk.2.2
  split at h
  ·rename_i h1;cases h;exact(hO h1).eats h0
  ·rename_i h1
   exact(chainF_at hO hOC f h).eats (h0.trans (hOC h1))
omit hE hC in
theorem chainP_at {k:Int} {ops:List Bs} {O:Pars} (hO:AtP e O) (hOC:EatsP O):AtP e (chainP k ops O):=by
 intro r ns o h
 unfold chainP at h
 split at h
 ·rename_i h1;cases h;exact hO h1
 ·rename_i h1
  exact(chainF_at hO hOC _ h).eats (hOC h1)
theorem sumP_at:AtP e (sumP e E):=chainP_at (chainP_at (unaryP_at hE hC) (unaryP_eats hC)) (termP_eats hC)
theorem cmpP_at:AtP e (cmpP e E):=by
 intro r ns o h
 unfold cmpP at h
 split at h
 ·rename_i h1;cases h;exact sumP_at hE hC h1
 ·rename_i h1
  have h2:=sumP_eats hC h1
  split at h
  ·rename_i hk
   split at h
   ·rename_i h3;cases h;exact(sumP_at hE hC h3).eats (h2.trans (.of_tail hk.2.2))
   ·cases h
  ·cases h
theorem notP_at:AtP e (notP e E):=by
 intro r
 induction r with
 |nil=>intro ns o h;exact cmpP_at hE hC h
 |cons t r ih=>
  intro ns o h
  simp only[notP] at h
  split at h
  ·split at h
   ·rename_i h1;cases h;exact(ih h1).eats (.of_tail (by simp))
   ·cases h
  ·exact cmpP_at hE hC h
theorem orP_at:AtP e (orP e E):=chainP_at (chainP_at (notP_at hE hC) (notP_eats hC)) (andP_eats hC)
end
theorem exprP_at {e:Int}:∀f,AtP e (exprP e f)
 |0,_r,_ns,_o,h=> .err h
 |f+1,_r,_ns,_o,h=>orP_at (exprP_at f) (exprP_eats f) h
end Go.Proofs.YtglndfgmlminpaaGreatDoor
namespace Go.Proofs.YtglndfgmlminpaaGreatDoor
theorem tokB_text {t:Tok} (h:(textT t).2=0):tokB t=true:=by
 unfold textT at h
 unfold tokB nameB
 split at h
 ·rename_i h1
  obtain⟨h1,h2,h3,h4⟩:=h1
  unfold validB at h4
  simp only[Bool.and_eq_true,decide_eq_true_eq] at h4
  simp[h1,h3,h4.2]
 split at h
 ·cases h
 rename_i hv
 have hv:t.val=0:=by simpa using hv
 split at h
 ·rename_i h1
  rcases h1 with⟨a,b,c⟩|⟨a,b⟩|⟨a,b⟩
  ·simp[a,b,hv];simpa using c
  ·simp[a]
  ·simp[a]
 split at h
 ·rename_i h1;simp[h1.1,h1.2]
 split at h
 ·rename_i h1;simp[h1.1,h1.2]
 ·cases h
theorem own_TokB {s:Bs}:∀{ts:List Tok} {e:Nat},own s e ts→TokB ts
 |[],_,_=>fun t h=>by cases h
 |x::ts,e,⟨k,_,h2,_,_,_,h6⟩=>fun t h=>by
  rcases List.mem_cons.1 h with rfl|h
  ·exact tokB_text h2
  ·exact own_TokB h6 t h
theorem tokens_TokB (s:Bs):TokB (tokens s).1:=by
 by_cases h:(tokens s).2.2=0
 ·exact own_TokB (tokens_own h)
 ·rw[(tokens_err h).1];exact fun t h=>by cases h
theorem parse_trees {s:Bs} {p:Pg} (h:progP s.length (tokens s).1= .ok p):∃Fs,(∀F∈Fs,FnTOk F)∧p=progOf Fs:=progP_put (tokens_TokB s) h
theorem check_lim {Fs:List FnT} (h:∀F∈Fs,FnTOk F):checkP (progOf Fs)=0∨checkP (progOf Fs)=3:=by
 have ho:ordB (progOf Fs)=true:=ord_iff.2 ⟨Fs,h,rfl⟩
 unfold checkP
 rw[ho]
 split
 ·exact .inr rfl
 rw[if_neg (by simp)]
 split
 ·exact .inr rfl
 ·exact .inl rfl
end Go.Proofs.YtglndfgmlminpaaGreatDoor
namespace Go.Proofs.YtglndfgmlminpaaGreatDoor
end Go.Proofs.YtglndfgmlminpaaGreatDoor
namespace Go.Proofs.YtglndfgmlminpaaGreatDoor
open Go.RowKit
end Go.Proofs.YtglndfgmlminpaaGreatDoor
