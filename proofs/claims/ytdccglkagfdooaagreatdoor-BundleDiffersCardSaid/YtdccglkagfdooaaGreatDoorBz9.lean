/- Texts joined by pack.py: XSxN -/
import Derived.Test.YtdccglkagfdooaaGreatDoorBz8
import Derived.Scope
namespace Go.Proofs.YtdccglkagfdooaaGreatDoor
open Go.RowKit
section
variable {P:Program} {T:Tab} {B:Fr} {w0:World} {N:Names} {S:Sets} {t t':List V} {m m':List (Option Bk)} {a:Act} {w:World} {ops:Array Oper}
theorem wkM_get:∀(l l':List (Option Bk)),WkM m m' l l'→∀(k:Nat) (b':Bk),l'[k]?=some (some b')→∃b:Bk,l[k]?=some (some b)∧WkB m m' b b'
 |[],[],_,k,b',h=>by simp at h
 |[],_::_,h,_,_,_=>by cases h
 |x::l,[],h,_,_,_=>by cases x<;>cases h
 |x::l,none::l',h,k,b',hk=>by
  cases k with
  |zero=>simp at hk
  |succ k=>
   have h':WkM m m' l l':=by
    simp only[WkM] at h
    cases hx:drops x<;>rw[hx] at h
    ·exact h.elim
    ·exact h
   simpa using wkM_get l l' h' k b' (by simpa using hk)
 |none::l,some b::l',h,_,_,_=>by cases h
 |some b::l,some c::l',h,k,b',hk=>by
  cases k with
  |zero=>simp at hk;subst hk;exact⟨b,by simp,h.1⟩
  |succ k=>simpa using wkM_get l l' h.2 k b' (by simpa using hk)
theorem wkM_keep:∀(l l':List (Option Bk)),WkM m m' l l'→∀(i k e s:Nat) (f:Bool) (xs:List (List D)),fixV≤k→l[i]?=some (some (.row k e s f xs))→∃(e' s':Nat) (f':Bool) (xs':List (List D)),l'[i]?=some (some (.row k e' s' f' xs'))
 |[],_,_,i,_,_,_,_,_,_,hk=>by simp at hk
 |x::l,[],h,_,_,_,_,_,_,_,_=>by cases x<;>cases h
 |x::l,none::l',h,i,k,e,s,f,xs,hF,hk=>by
  simp only[WkM] at h
  cases i with
  |zero=>
   simp at hk;subst hk
   rw[show drops (some (.row k e s f xs))=false from(by have hF':1000000≤k:=hF;rw[Bool.eq_false_iff];intro e;have:=Nat.blt_eq.mp e;omega:Nat.blt k 1000000=false)] at h
   exact h.elim
  |succ i=>
   cases hx:drops x<;>rw[hx] at h
   ·exact h.elim
   ·simpa using wkM_keep l l' h i k e s f xs hF (by simpa using hk)
 |none::l,some b::l',h,_,_,_,_,_,_,_,_=>by cases h
 |some b::l,some c::l',h,i,k,e,s,f,xs,hF,hk=>by
  cases i with
  |zero=>
   simp at hk;subst hk
   have h1:=h.1
   cases c with
   |box cs=>cases h1
   |fz=>cases h1
   |asr=>cases h1
   |row k' e' s' f' xs'=>
    simp only[WkB] at h1
    cases hx:fixOk k k' with
    |false=>rw[hx] at h1;exact h1.elim
    |true=>
     have:k'=k:=by
      unfold fixOk at hx
      simp[Nat.blt_eq] at hx
      rcases hx with hx|hx
      ·exact hx.symm
      ·have:=hx.2;simp only[fixV] at hF;omega
     subst this
     exact⟨_,_,_,_,rfl⟩
  |succ i=>simpa using wkM_keep l l' h.2 i k e s f xs hF (by simpa using hk)
theorem wkM_keepA:∀(l l':List (Option Bk)),WkM m m' l l'→∀(i k:Nat) (A:Asrt) (o:List V),fixV≤k→l[i]?=some (some (.asr k A o))→∃A' o',l'[i]?=some (some (.asr k A' o'))
 |[],_,_,i,_,_,_,_,hk=>by simp at hk
 |x::l,[],h,_,_,_,_,_,_=>by cases x<;>cases h
 |x::l,none::l',h,i,k,A,o,hF,hk=>by
  simp only[WkM] at h
  cases i with
  |zero=>
   simp at hk;subst hk
   rw[show drops (some (.asr k A o))=false from(by have hF':1000000≤k:=hF;rw[Bool.eq_false_iff];intro e;have:=Nat.blt_eq.mp e;omega:Nat.blt k 1000000=false)] at h
   exact h.elim
  |succ i=>
   cases hx:drops x<;>rw[hx] at h
   ·exact h.elim
   ·simpa using wkM_keepA l l' h i k A o hF (by simpa using hk)
 |none::l,some b::l',h,_,_,_,_,_,_=>by cases h
 |some b::l,some c::l',h,i,k,A,o,hF,hk=>by
  cases i with
  |zero=>
   simp at hk;subst hk
   have h1:=h.1
   cases c with
   |asr k' A' o'=>
    simp only[WkB] at h1
    cases hx:fixOk k k' with
    |false=>rw[hx] at h1;exact h1.elim
    |true=>
     have:k'=k:=by
      unfold fixOk at hx
      simp[Nat.blt_eq] at hx
      rcases hx with hx|hx
      ·exact hx.symm
      ·have:=hx.2;simp only[fixV] at hF;omega
     subst this
     exact⟨_,_,rfl⟩
   |_=>cases h1
  |succ i=>simpa using wkM_keepA l l' h.2 i k A o hF (by simpa using hk)
theorem wkM_fz {m0 m0':List (Option Bk)}:∀(l l':List (Option Bk)),WkM m0 m0' l l'→∀(i k E:Nat) (bs:List UInt8),l[i]?=some (some (.fz k E bs))→False
 |[],[],_,i,k,E,bs,hk=>by simp at hk
 |[],some _::_,h,_,_,_,_,_=>by cases h
 |[],none::_,h,_,_,_,_,_=>by cases h
 |_::_,[],h,_,_,_,_,_=>by cases h
 |x::l,none::l',h,i,k,E,bs,hk=>by
  simp only[WkM] at h
  cases i with
  |zero=>
   simp at hk;subst hk
   exact h.elim
  |succ i=>
   cases hx:drops x<;>rw[hx] at h
   ·exact h.elim
   ·exact wkM_fz l l' h i k E bs (by simpa using hk)
 |none::l,some b::l',h,_,_,_,_,_=>by cases h
 |some b::l,some c::l',h,i,k,E,bs,hk=>by
  cases i with
  |zero=>
   simp at hk;subst hk
   have h1:=h.1
   cases c<;>cases h1
  |succ i=>exact wkM_fz l l' h.2 i k E bs (by simpa using hk)
theorem wkL_get:∀(l l':List V),WkL m m' l l'→l.length=l'.length∧∀(k:Nat) (v':V),l'[k]?=some v'→∃v:V,l[k]?=some v∧WkV m m' v v'
 |[],[],_=>⟨rfl,fun k v' h=>by simp at h⟩
 |[],v'::_,h=>by cases v'<;>cases h
 |_::_,[],h=>by cases h
 |v::l,v'::l',h=>by
  have key:WkV m m' v v'∧WkL m m' l l':=by
   cases v'<;>first|exact h|exact⟨trivial,h⟩
  obtain⟨h1,h2⟩:=wkL_get l l' key.2
  refine⟨by simp[h1],fun k v2 hk=>?_⟩
  cases k with
  |zero=>simp at hk;subst hk;exact⟨v,by simp,key.1⟩
  |succ k=>simpa using h2 k v2 (by simpa using hk)
theorem closedL_get:∀(l:List V),closedL m l=true→∀(k:Nat) (v:V),l[k]?=some v→v.closed m=true
 |[],_,k,v,h=>by simp at h
 |x::l,h,k,v,hk=>by
  simp only[closedL,Bool.and_eq_true] at h
  cases k with
  |zero=>simp at hk;subst hk;exact h.1
  |succ k=>exact closedL_get l h.2 k v (by simpa using hk)
theorem closedM_tail {x:Option Bk} {l:List (Option Bk)} (h:closedM m (x::l)=true):closedM m l=true:=by
 rcases x with _|_|_|_|_
 ·exact h
 ·simp only[closedM,Bool.and_eq_true] at h;exact h.2
 ·exact h
 ·exact h
 ·simp only[closedM,Bool.and_eq_true] at h;exact h.2
theorem closedM_get:∀(l:List (Option Bk)),closedM m l=true→∀(k:Nat) (cs:List V) (bt:Option Nat),l[k]?=some (some (.box cs bt))→closedL m cs=true
 |[],_,k,cs,bt,h=>by simp at h
 |x::l,h,k,cs,bt,hk=>by
  have h':=closedM_tail h
  cases k with
  |zero=>simp at hk;subst hk;simp only[closedM,Bool.and_eq_true] at h;exact h.1
  |succ k=>exact closedM_get l h' k cs bt (by simpa using hk)
theorem closedM_as:∀(l:List (Option Bk)),closedM m l=true→∀(k:Nat) (v:Nat) (A:Asrt) (cs:List V),l[k]?=some (some (.asr v A cs))→closedL m cs=true
 |[],_,k,_,_,cs,h=>by simp at h
 |x::l,h,k,v,A,cs,hk=>by
  have h':=closedM_tail h
  cases k with
  |zero=>simp at hk;subst hk;simp only[closedM,Bool.and_eq_true] at h;exact h.1
  |succ k=>exact closedM_as l h' k v A cs (by simpa using hk)
theorem keepL_get:∀{l l':List (Option Bk)} {i:Nat} {b:Bk},keepL l l'=true→l[i]?=some (some b)→∃b',l'[i]?=some (some b')
 |[],l',i,b,_,h=>by simp at h
 |x::l,l',i,b,hk,h=>by
  cases i with
  |zero=>
   simp at h;subst h
   cases l' with
   |nil=>cases b<;>simp[keepL] at hk
   |cons y l'=>
    cases y with
    |none=>cases b<;>simp[keepL] at hk
    |some y=>exact⟨y,rfl⟩
  |succ i=>
   cases l' with
   |nil=>
    have hk':keepL l []=true:=by
     cases x with
     |none=>simpa[keepL] using hk
     |some x=>cases x<;>simp[keepL] at hk
    obtain⟨b',h'⟩:=keepL_get (i:=i) hk' (by simpa using h)
    simp at h'
   |cons y l'=>
    have hk':keepL l l'=true:=by
     cases x with
     |none=>simpa[keepL] using hk
     |some x=>cases x<;>(cases y with
      |none=>simp[keepL] at hk
      |some y=>cases y<;>first|(simp[keepL] at hk;done)|simpa[keepL] using hk)
    obtain⟨b',h'⟩:=keepL_get (i:=i) hk' (by simpa using h)
    exact⟨b',by simpa using h'⟩
def FrOk (B:Fr):Prop:=(∀p∈B.ghost,∃n,p.1= .ow n fixV)∧B.free=false
theorem Sat.weaken (hg:FrOk B) (hs:Sat B w0 N S t m a w) (h:Wk ⟨t,m⟩ ⟨t',m'⟩):∃N',Sat B w0 N' S t' m' a w:=by
 obtain⟨hcl,hL,hM⟩:=h
 simp only[Bool.and_eq_true] at hcl
 obtain⟨hc1,hc2,hc3⟩:=hcl
 let N':Names:=fun n=>match m'[n]? with
  |some (some (.row k _ _ _ _))=>(N n).map fun p=>(k,p.2)
  |some (some (.asr k _ _))=>(N n).map fun p=>(k,p.2)
  |some (some (.box _ _))=>N n
  |_=>none
 have hget:=wkM_get m m' hM
 have hN:∀n x v,N' n=some (x,v)→∃y,N n=some (y,v):=by
  intro n x v h
  simp only[N'] at h
  split at h
  ·cases hn:N n with
   |none=>rw[hn] at h;cases h
   |some p=>rw[hn] at h;cases h;exact⟨p.1,rfl⟩
  ·cases hn:N n with
   |none=>rw[hn] at h;cases h
   |some p=>rw[hn] at h;cases h;exact⟨p.1,rfl⟩
  ·exact⟨x,h⟩
  ·cases h
 have hbox:∀n g,N n=some (0,.pointer (some ⟨g,0,none⟩))→(∃b,m'[n]?=some (some b))→N' n=some (0,.pointer (some ⟨g,0,none⟩)):=by
  rintro n g hn ⟨b',hb'⟩
  obtain⟨b,hb,hwb⟩:=hget n b' hb'
  simp only[N',hb']
  cases b' with
  |box cs=>exact hn
  |fz=>cases b<;>cases hwb
  |asr k A outs=>
   cases b with
   |asr k2 A2 outs2=>
    obtain⟨fs,us,h1,_⟩:=hs.blk n _ hb
    rw[hn] at h1;cases h1
   |_=>cases hwb
  |row k E sz f xs=>
   cases b with
   |asr=>cases hwb
   |fz=>cases hwb
   |box cs=>cases hwb
   |row k2 E2 sz2 f2 xs2=>
    obtain⟨v,us,h1,h2,_⟩:=hs.blk n _ hb
    rw[hn] at h1;cases h1
    obtain⟨A,c,h⟩:=own_parts h2
    cases h
 have hrow:∀n k k',cur m n=some k→cur m' n=some k'→∃v,N n=some (k,v)∧N' n=some (k',v):=by
  intro n k k' h1 h2
  have h3:∃v,N n=some (k,v):=by
   unfold cur at h1
   split at h1
   ·rename_i hm;cases h1;obtain⟨v,us,h3,_⟩:=hs.blk n _ hm;exact⟨v,h3⟩
   ·rename_i hm;cases h1;obtain⟨v,us,h3,_⟩:=hs.blk n _ hm;exact⟨_,h3⟩
   ·cases h1
  obtain⟨v,h3⟩:=h3
  refine⟨v,h3,?_⟩
  unfold cur at h2
  split at h2
  ·rename_i hm';cases h2;simp[N',hm',h3]
  ·rename_i hm';cases h2;simp[N',hm',h3]
  ·cases h2
 have hplain:∀{v:V} {u:Value},v.closed1=true→RelV N S w v u→RelV N' S w v u:=by
  intro v u h1 h
  cases h<;>first|(cases h1;done)|skip
  ·exact .un _
  ·exact .cv _
  ·exact .kb _
  ·exact .sl _ _ _ _ (by assumption)
  ·rename_i hS hc;exact .el _ _ _ _ _ (by assumption) _ (by assumption)
 have hplainB:∀{v:V} {u:Value},v.closedB m'=true→RelV N S w v u→RelV N' S w v u:=by
  intro v u h1 h
  cases v with
  |bx n o=>
   cases h with
   |bx _ _ g hn=>
    refine .bx n o g (hbox n g hn ?_)
    simp only[V.closedB] at h1
    split at h1
    ·exact⟨_,by assumption⟩
    ·cases h1
  |_=>exact hplain h1 h
 have hplain2:∀{v:V} {u:Value},v.closed2=true→RelV N S w v u→RelV N' S w v u:=by
  intro v u h1 h
  cases v with
  |ag cs=>
   simp only[V.closed2,List.all_eq_true] at h1
   cases h with
   |ag _ us hl h=>exact .ag cs us hl fun i v hv=>hplain (h1 v (List.mem_of_getElem? hv)) (h i v hv)
  |_=>exact hplain h1 h
 have hrel:∀{v v':V} {u:Value},WkV m m' v v'→v'.closed m'=true→RelV N S w v u→RelV N' S w v' u:=by
  intro v v' u hw hcv h
  cases v' with
  |un=>exact .un _
  |ow n' k'=>
   cases v<;>simp only[WkV] at hw<;>try(cases hw;done)
   obtain⟨rfl,h1,h2⟩:=hw
   cases h with
   |ow _ _ _ hu hn=>
    obtain⟨k0,v,hn,hk,he⟩:=hn
    obtain⟨v2,h3,h4⟩:=hrow _ _ _ h1 h2
    rw[hn] at h3;cases h3
    exact .ow _ _ _ hu ⟨k',_,h4,Nat.le_refl _,fun _=>he rfl⟩
  |oq n' k' s' i' o'=>
   cases v<;>simp only[WkV] at hw<;>try(cases hw;done)
   obtain⟨rfl,h1,h2,rfl,rfl,rfl⟩:=hw
   cases h with
   |oq _ _ _ _ _ _ hu hn=>
    obtain⟨k0,v,hn,hk,he⟩:=hn
    obtain⟨v2,h3,h4⟩:=hrow _ _ _ h1 h2
    rw[hn] at h3;cases h3
    exact .oq _ _ _ _ _ _ hu ⟨k',_,h4,Nat.le_refl _,fun _=>he rfl⟩
  |vw n' k' s' i' o'=>
   cases v<;>simp only[WkV] at hw<;>try(cases hw;done)
   obtain⟨rfl,h1,h2,rfl,rfl,rfl⟩:=hw
   cases h with
   |vw _ _ _ _ _ _ hu hn=>
    obtain⟨k0,v,hn,hk,he⟩:=hn
    obtain⟨v2,h3,h4⟩:=hrow _ _ _ h1 h2
    rw[hn] at h3;cases h3
    exact .vw _ _ _ _ _ _ hu ⟨k',_,h4,Nat.le_refl _,fun _=>he rfl⟩
  |cv c=>
   simp only[WkV] at hw
   have:=h.nf
   rw[hw] at this
   exact hplain rfl this
  |kb b=>simp only[WkV] at hw;subst hw;exact hplain rfl h
  |sl f sz xs=>simp only[WkV] at hw;subst hw;exact hplain rfl h
  |el f cells o=>simp only[WkV] at hw;subst hw;exact hplain rfl h
  |bx n o=>
   simp only[WkV] at hw;subst hw
   cases h with
   |bx _ _ g hn=>
    refine .bx n o g (hbox n g hn ?_)
    simp only[V.closed] at hcv
    split at hcv
    ·exact⟨_,by assumption⟩
    ·cases hcv
  |ic ty n=>
   simp only[WkV] at hw;subst hw
   cases h with
   |ic _ _ g hn=>
    refine .ic ty n g (hbox n g hn ?_)
    simp only[V.closed] at hcv
    split at hcv
    ·exact⟨_,by assumption⟩
    ·cases hcv
  |ag cs=>
   simp only[WkV] at hw;subst hw
   simp only[V.closed,List.all_eq_true] at hcv
   cases h with
   |ag _ us hl h=>exact .ag cs us hl fun i v hv=>hplainB (hcv v (List.mem_of_getElem? hv)) (h i v hv)
  |fn f n cs=>
   simp only[WkV] at hw;subst hw
   simp only[V.closed,List.all_eq_true] at hcv
   cases h with
   |fn _ _ _ us vs hn hl h=>exact .fn f n cs us vs hn hl fun i v hv=>hplainB (hcv v (List.mem_of_getElem? hv)) (h i v hv)
  |tu cs=>
   simp only[WkV] at hw;subst hw
   simp only[V.closed,List.all_eq_true] at hcv
   cases h with
   |tu _ us hl h=>exact .tu cs us hl fun i v hv=>hplain2 (hcv v (List.mem_of_getElem? hv)) (h i v hv)
 obtain⟨hl1,hl2⟩:=wkL_get t t' hL
 refine⟨N',hs.low,hs.nodef,⟨by rw[←hl1];exact hs.tmps.1,fun i v' hv'=>?_⟩,?_,?_,?_,?_,hs.fresh,?_,hs.base,hs.old,fun n g hn=>?_,⟨hs.more.size,fun p hp=>?_,hs.more.aside,hs.more.inv⟩,fun n og hn=>?_⟩
 rotate_right
 ·obtain⟨h1,x,v,h3,h4⟩:=hs.stay n og hn
  have hr:t.length≤n∧n<t.length+16:=by
   rcases h1 with h1|h1
   ·rw[hg.2] at h1;cases h1
   ·exact h1
  refine⟨.inr (by rw[←hl1];exact hr),?_⟩
  obtain⟨b,hb⟩:=hs.def_ h3
  obtain⟨b',hb'⟩:=keepL_get hc3 (i:=n - t.length) (b:=b) (by rw[List.getElem?_take,if_pos (by omega),List.getElem?_drop,show t.length+(n - t.length)=n by omega];exact hb)
  rw[List.getElem?_take,if_pos (by omega),List.getElem?_drop,show t.length+(n - t.length)=n by omega] at hb'
  cases b' with
  |box cs=>exact⟨x,v,by simp only[N',hb'];exact h3,h4⟩
  |row k E sz f xs=>exact⟨k,v,by simp only[N',hb',h3,Option.map_some],h4⟩
  |asr k A outs=>exact⟨k,v,by simp only[N',hb',h3,Option.map_some],h4⟩
  |fz k E bs=>
   obtain⟨b2,_,hwb⟩:=hget n _ hb'
   cases b2<;>cases hwb
 ·obtain⟨v,hv,hw⟩:=hl2 i v' hv'
  exact hrel hw (closedL_get t' hc1 i v' hv') (hs.tmps.2 i v hv)
 ·intro k b' hb'
  obtain⟨b,hb,hwb⟩:=hget k b' hb'
  have hH:=hs.blk k b hb
  cases b' with
  |box cs' bt'=>
   cases b with
   |asr=>cases hwb
   |row _ _ _ _ _=>cases hwb
   |fz=>cases hwb
   |box cs bt=>
    obtain⟨g,ty,us,h1,h2,h3,h4⟩:=hH
    have hwb2:(bt'=none∨bt=bt')∧WkL m m' cs cs':=by
     cases bt' with
     |none=>exact⟨.inl rfl,hwb⟩
     |some t'=>exact⟨.inr hwb.1,hwb.2⟩
    obtain⟨e1,e2⟩:=wkL_get cs cs' hwb2.2
    refine⟨g,bt.getD ty,us,hbox k g h1 ⟨_,hb'⟩,?_,by omega,fun i v' hv'=>?_⟩
    ·rcases hwb2.1 with rfl|rfl
     ·exact h2
     ·rw[h2];cases bt<;>rfl
    obtain⟨v,hv,hw⟩:=e2 i v' hv'
    exact hrel hw (closedL_get cs' (closedM_get m' hc2 k cs' bt' hb') i v' hv') (h4 i v hv)
  |fz=>cases b<;>cases hwb
  |asr k' A' outs'=>
   cases b with
   |asr k0 A outs=>
    have hwb2:A=A'∧WkL m m' outs outs':=by
     cases hx:fixOk k0 k'<;>simp only[WkB,hx] at hwb
     exact hwb
    obtain⟨rfl,hwl⟩:=hwb2
    obtain⟨fs,us,h1,h2,h3⟩:=hH
    obtain⟨e1,e2⟩:=wkL_get outs outs' hwl
    refine⟨fs,us,by simp[N',hb',h1],⟨by rw[←e1];exact h2.1,fun i v' hv'=>?_⟩,h3⟩
    obtain⟨v,hv,hw⟩:=e2 i v' hv'
    exact hrel hw (closedL_get outs' (closedM_as m' hc2 k k' A outs' hb') i v' hv') (h2.2 i v hv)
   |_=>cases hwb
  |row k' E' sz' f' xs'=>
   cases b with
   |asr=>cases hwb
   |box _=>cases hwb
   |fz=>cases hwb
   |row k0 E sz f xs=>
    obtain⟨hff,rfl,rfl,rfl⟩:(f'=true→f=true)∧E=E'∧sz=sz'∧xs=xs':=by
     cases hx:fixOk k0 k'<;>cases f<;>cases f'<;>simp only[WkB,hx] at hwb<;>first|exact hwb.elim|exact⟨fun e=>by first|exact e|rfl,hwb⟩
    obtain⟨v,us,h1,h2,h3,h4,h5,h6⟩:=hH
    refine⟨v,us,by simp[N',hb',h1],h2,h3,h4,fun i j d hd=>?_,fun e=>h6 (hff e)⟩
    obtain⟨u,hu,hr⟩:=h5 i j d hd
    refine⟨u,hu,?_⟩
    cases f' with
    |true=>have:=hff rfl;subst this;exact hr
    |false=>
     cases f with
     |false=>exact hr
     |true=>exact hr.mono (fun b hb=>(hs.fresh b hb).1) fun _ _=>rfl
 ·intro k hk
  simp only[N']
  split
  ·rename_i h;exact absurd h (hk _)
  ·rename_i h;exact absurd h (hk _)
  ·rename_i h;exact absurd h (hk _)
  ·rfl
 ·intro j k x y u v g h1 h2 h3 h4
  obtain⟨x',h1'⟩:=hN _ _ _ h1
  obtain⟨y',h2'⟩:=hN _ _ _ h2
  exact hs.apart j k x' y' u v g h1' h2' h3 h4
 ·intro f g hg
  refine⟨(hs.data f g hg).1,fun k x v h1 h2=>?_⟩
  obtain⟨x',h1'⟩:=hN _ _ _ h1
  exact(hs.data f g hg).2 k x' v h1' h2
 ·intro k x v g h1 h2
  obtain⟨x',h1'⟩:=hN _ _ _ h1
  exact hs.own k x' v g h1' h2
 ·obtain⟨h1,h2,h3⟩:=hs.lent n g hn
  refine⟨by rw[←hl1];exact h1,by rw[←hl1];exact h2,?_⟩
  obtain⟨b,hb⟩:=hs.def_ h3
  have hbx:∃cs bt,b= .box cs bt:=by
   have:=hs.blk n b hb
   cases b with
   |box cs bt=>exact⟨cs,bt,rfl⟩
   |row k E sz f xs=>
    obtain⟨v,us,e1,e2,_⟩:=this
    rw[h3] at e1;cases e1
    obtain⟨A,c,h⟩:=own_parts e2
    cases h
   |fz k E bs=>
    obtain⟨g0,cap,us,fr,e1,_⟩:=this
    rw[h3] at e1;cases e1
   |asr k A outs=>
    obtain⟨fs,us,e1,_⟩:=this
    rw[h3] at e1;cases e1
  obtain⟨cs,bt,rfl⟩:=hbx
  have key:∀(l l':List (Option Bk)) (i:Nat) (cs:List V) (bt:Option Nat),keepL l l'=true→l[i]?=some (some (.box cs bt))→∃cs' bt',l'[i]?=some (some (.box cs' bt')):=by
   intro l
   induction l with
   |nil=>intro l' i cs bt _ h;simp at h
   |cons x l ih=>
    intro l' i cs bt hk h
    cases i with
    |zero=>
     simp at h;subst h
     cases l' with
     |nil=>simp[keepL] at hk
     |cons y l'=>
      cases y with
      |none=>simp[keepL] at hk
      |some y=>cases y with
       |box cs' bt'=>exact⟨cs',bt',rfl⟩
       |row=>simp[keepL] at hk
       |fz=>simp[keepL] at hk
       |asr=>simp[keepL] at hk
    |succ i=>
     cases l' with
     |nil=>
      cases x with
      | none=>simp at h;exact absurd h (by
        intro h
        have:=ih [] i cs bt (by simpa[keepL] using hk) h
        simp at this)
      |some x=>cases x with
       |box=>simp[keepL] at hk
       |row=>simp[keepL] at hk
       |fz=>simp[keepL] at hk
       |asr=>simp[keepL] at hk
     |cons y l'=>
      have hk':keepL l l'=true:=by
       cases x with
       |none=>simpa[keepL] using hk
       |some x=>cases x with
        |fz=>simp[keepL] at hk
        |row=>cases y with
         |none=>simp[keepL] at hk
         |some y=>cases y with
          |row=>simpa[keepL] using hk
          |box=>simp[keepL] at hk
          |fz=>simp[keepL] at hk
          |asr=>simp[keepL] at hk
        |asr=>cases y with
         |none=>simp[keepL] at hk
         |some y=>cases y with
          |asr=>simpa[keepL] using hk
          |row=>simp[keepL] at hk
          |box=>simp[keepL] at hk
          |fz=>simp[keepL] at hk
        |box=>cases y with
         |none=>simp[keepL] at hk
         |some y=>cases y with
          |box=>simpa[keepL] using hk
          |row=>simp[keepL] at hk
          |fz=>simp[keepL] at hk
          |asr=>simp[keepL] at hk
      obtain⟨cs',bt',h'⟩:=ih l' i cs bt hk' (by simpa using h)
      exact⟨cs',bt',by simpa using h'⟩
  obtain⟨cs',bt',h'⟩:=key _ _ (n - t.length) cs bt hc3 (by rw[List.getElem?_take,if_pos (by omega),List.getElem?_drop,show t.length+(n - t.length)=n by omega];exact hb)
  rw[List.getElem?_take,if_pos (by omega),List.getElem?_drop,show t.length+(n - t.length)=n by omega] at h'
  simp only[N',h']
  exact h3
 ·have hr:=hs.more.ghost p hp
  obtain⟨n,hn⟩:=hg.1 p hp
  rw[hn] at hr⊢
  cases hr with
  |ow _ _ _ hu hx=>
   obtain⟨k0,v,g1,g2,g3⟩:=hx
   obtain⟨b,hb⟩:=hs.def_ g1
   have hB:=hs.blk n b hb
   cases b with
   |box cs=>
    obtain⟨g,ty,us,e1,_⟩:=hB
    rw[g1] at e1;cases e1
    exact absurd g2 (by simp only[fixV];omega)
   |row k E sz f xs=>
    obtain⟨v',us,e1,_⟩:=hB
    rw[g1] at e1;cases e1
    obtain⟨e',s',f',xs',h'⟩:=wkM_keep m m' hM n k0 E sz f xs g2 hb
    exact .ow _ _ _ hu ⟨k0,v,by simp[N',h',g1],g2,g3⟩
   |fz k E bs=>exact(wkM_fz m m' hM n k E bs hb).elim
   |asr k A outs=>
    obtain⟨fs,us,e1,_⟩:=hB
    rw[g1] at e1;cases e1
    obtain⟨A',o',h'⟩:=wkM_keepA m m' hM n k0 A outs g2 hb
    exact .ow _ _ _ hu ⟨k0,_,by simp[N',h',g1],g2,g3⟩
theorem rows_sound:∀(rows:List (Nat×Nat×Nat×Nat)) {N:Names} {S:Sets} {t:List V} {m:List (Option Bk)} {K:St→Prop},Sat B w0 N S t m a w→rowsK rows ⟨t,m⟩ K→∃N' S' t' m',Sat B w0 N' S' t' m' a w∧K ⟨t',m'⟩
 |[],N,S,t,m,K,hs,h=>⟨N,S,t,m,hs,h⟩
 |(s,d,e,sz)::rows,N,S,t,m,K,hs,h=>by
  simp only[rowsK] at h
  split at h
  ·split at h
   rotate_left
   ·cases h
   rename_i hts hmd
   split at h
   ·cases h
   rename_i hsz
   rw[setK_eq,setK_eq] at h
   have hnone:N d=none:=hs.non d fun b' h=>by rw[hmd] at h;cases h
   obtain⟨N',g1,g2,g3⟩:=hs.set (w':=w) (d:=d) (k:=0) (v:= .slice none 0 0) (b:= .row 0 e sz true []) (lt_of_get hmd) (fun k0 v0 h=>by rw[hnone] at h;cases h)
    hs.low (Nat.le_refl _) (fun _ _ _=>rfl) (fun g hg=>by simp[At,at1] at hg)
    (fun N' g1 _ _=>⟨_,[],g1,World.ownsRow_nil w 0 e sz,by simp,by omega,by simp,fun _ g hg=>by simp[At,at1] at hg⟩)
   have hr:=g3.tmps.2 s _ hts
   have:=g3.put (v:= .ow d 0) (u:=a.tmps.toList.getD s undef) (dst:=some s) (by
    generalize a.tmps.toList.getD s undef=z at hr
    cases hr
    exact .ow d 0 _ rfl ⟨0,_,g1,Nat.le_refl _,fun _=>rfl⟩)
   have e:a.put (some s) (a.tmps.toList.getD s undef)=a:=by
    unfold Act.put
    have hlt:=lt_of_get hts
    have:a.tmps.setIfInBounds s (a.tmps.toList.getD s undef)=a.tmps:=by
     apply Array.ext'
     rw[Array.toList_setIfInBounds]
     have hlt2:s<a.tmps.toList.length:=by rw[←hs.tmps.1];exact hlt
     rw[List.getD_eq_getElem?_getD,List.getElem?_eq_getElem hlt2,Option.getD_some]
     exact List.set_getElem_self hlt2
    simp only[this]
   rw[e] at this
   exact rows_sound rows this h
  ·split at h
   rotate_left
   ·split at h
    ·obtain⟨⟨t1,m1⟩,h1,h2⟩:=h
     obtain⟨N',S',h3⟩:=h1 B w0 N S a w hs
     exact rows_sound rows h3 h2
    ·exact rows_sound rows hs h
   split at h
   rotate_left
   ·cases h
   rename_i cs bt hmn hmd
   split at h
   rotate_left
   ·cases h
   rename_i hco
   split at h
   ·cases h
   rename_i hsz
   rw[setK_eq,setK_eq,setK_eq] at h
   generalize (s - 1000000) / 1000=n at hmn h
   generalize (s - 1000000) % 1000=off at hco h
   have hnd:n≠d:=by rintro rfl;rw[hmn] at hmd;cases hmd
   have hnone:N d=none:=hs.non d fun b' h=>by rw[hmd] at h;cases h
   obtain⟨N',g1,g2,g3⟩:=hs.set (w':=w) (d:=d) (k:=0) (v:= .slice none 0 0) (b:= .row 0 e sz true []) (lt_of_get hmd) (fun k0 v0 h=>by rw[hnone] at h;cases h)
    hs.low (Nat.le_refl _) (fun _ _ _=>rfl) (fun g hg=>by simp[At,at1] at hg)
    (fun N' g1 _ _=>⟨_,[],g1,World.ownsRow_nil w 0 e sz,by simp,by omega,by simp,fun _ g hg=>by simp[At,at1] at hg⟩)
   have hmn':(m.set d (some (.row 0 e sz true [])))[n]?=some (some (.box cs bt)):=by rw[List.getElem?_set_ne (Ne.symm hnd)];exact hmn
   obtain⟨g,ty,us,e1,e2,e3,e4⟩:=g3.blk n _ hmn'
   obtain⟨N2,q1,q2,q3⟩:=g3.set (w':=w) (d:=n) (k:=0) (v:= .pointer (some ⟨g,0,none⟩)) (b:= .box (cs.set off (.ow d 0)) bt) (lt_of_get hmn') (fun k0 v0 h=>by rw[e1] at h;cases h;exact .inl ⟨rfl,rfl⟩)
    g3.low (Nat.le_refl _) (fun _ _ _=>rfl) (fun g' hg=>⟨(g3.own n _ _ g' e1 hg).2,.inr ⟨_,_,e1,hg⟩⟩)
    (fun N2 q1 q2 _=>⟨g,ty,us,q1,e2,by rw[List.length_set];exact e3,fun i v hv=>by
     rw[List.getElem?_set] at hv
     split at hv
     ·rename_i hi
      subst hi
      split at hv
      ·cases hv
       have hr:=e4 off _ hco
       generalize us.getD off undef=z at hr⊢
       cases hr
       exact q2 _ _ (.ow d 0 _ rfl ⟨0,_,g1,Nat.le_refl _,fun _=>rfl⟩)
      ·cases hv
     ·exact q2 _ _ (e4 i v hv)⟩)
   have hc:(m.set d (some (.row 0 e sz true []))).set n (some (.box (cs.set off (.ow d 0)) bt))=(m.set n (some (.box (cs.set off (.ow d 0)) bt))).set d (some (.row 0 e sz true [])):=List.set_comm _ _ (Ne.symm hnd)
   rw[hc] at q3
   exact rows_sound rows q3 h
theorem Sat.weakenR (hg:FrOk B) (hs:Sat B w0 N S t m a w) {rows:List (Nat×Nat×Nat×Nat)} (h:WkR rows ⟨t,m⟩ ⟨t',m'⟩):∃N' S',Sat B w0 N' S' t' m' a w:=by
 unfold WkR at h
 split at h
 ·obtain⟨N',h'⟩:=hs.weaken hg h
  exact⟨N',S,h'⟩
 ·obtain⟨⟨t1,m1⟩,h1,h2⟩:=h
  obtain⟨N1,S1,h3⟩:=h1 B w0 N S a w hs
  obtain⟨N',h'⟩:=h3.weaken hg h2
  exact⟨N',S1,h'⟩
def QK (B:Fr) (w0:World) (K:Ex→St→Prop):Exit→Act→World→Prop
 | .normal,a,w=>OkSt B w0 (K .normal) a w
 | .ret,a,w=>OkSt B w0 (K .ret) a w
 | .exit id,a,w=>OkSt B w0 (K (.exit id)) a w
 |_,_,_=>False
theorem exists_least {p:Nat→Prop} (h:∃n,p n):∃n,p n∧∀k,p k→n≤k:=by
 obtain⟨n,hn⟩:=h
 induction n using Nat.strongRecOn with
 |_ n ih=>
  by_cases hc:∃k,k<n∧p k
  ·obtain⟨k,hk,hp⟩:=hc;exact ih k hk hp
  ·exact⟨n,hn,fun k hk=>by
    rcases Nat.lt_or_ge k n with h|h
    ·exact absurd ⟨k,h,hk⟩ hc
    ·exact h⟩
theorem head_eq {c:Code} {t:List V} {m:List (Option Bk)} {ups:List (Nat×V)} {mups:List (Nat×Option Bk)} {K:St→Prop}:headK c ⟨t,m⟩ ups mups K=K ⟨(updL ups (forgetL .un (Code.wr c) t)).map (V.clean (updL mups (forgetL none (Code.wr c) m))),updL mups (forgetL none (Code.wr c) m)⟩:=by
 have h1:∀{α:Type} (z:α) (is:List Nat) (l:List α) (K:List α→Prop),forgetK z is l K=K (forgetL z is l):=by
  intro α z is
  induction is with
  |nil=>intro l K;rfl
  |cons i is ih=>intro l K;simp only[forgetK,setK_eq,ih,forgetL]
 have h2:∀{α:Type} (us:List (Nat×α)) (l:List α) (K:List α→Prop),updK us l K=K (updL us l):=by
  intro α us
  induction us with
  |nil=>intro l K;rfl
  |cons p us ih=>intro l K;obtain⟨i,v⟩:=p;simp only[updK,setK_eq,ih,updL]
 simp only[headK,forceAll_eq,forceM_eq,h1,h2]
theorem slotsC_ex:∀{l:List V} {i:Nat} {us:List (Nat×V)} {K:List V→Prop},slotsC l i us K→∃t,K t
 |[],_,_,_,h=>⟨_,h⟩
 |_::l,i,(j,v)::us,K,h=>by
  unfold slotsC at h
  split at h
  ·obtain⟨t,h⟩:=slotsC_ex h;exact⟨_,h⟩
  ·obtain⟨t,h⟩:=slotsC_ex h;exact⟨_,h⟩
 |_::l,i,[],K,h=>by
  unfold slotsC at h
  obtain⟨t,h⟩:=slotsC_ex h;exact⟨_,h⟩
theorem blksC_ex:∀{l:List (Option Bk)} {i:Nat} {us:List (Nat×Bk)} {K:List (Option Bk)→Prop},blksC l i us K→∃t,K t
 |[],_,_,_,h=>⟨_,h⟩
 |_::l,i,(j,v)::us,K,h=>by
  unfold blksC at h
  split at h
  ·obtain⟨t,h⟩:=blksC_ex h;exact⟨_,h⟩
  ·obtain⟨t,h⟩:=blksC_ex h;exact⟨_,h⟩
 |_::l,i,[],K,h=>by
  unfold blksC at h
  obtain⟨t,h⟩:=blksC_ex h;exact⟨_,h⟩
theorem join_sound (hg:FrOk B) {x:Option Bool} {K:St→Prop} {a:Act} {w:World} (h:OkSt B w0 (fun st=>joinK x st K) a w):OkSt B w0 K a w:=by
 obtain⟨N,S,t,m,hs,h⟩:=h
 cases x with
 |none=>exact⟨N,S,t,m,hs,h⟩
 |some b=>
  obtain⟨ups,mups,⟨t1,m1⟩,hgh,h⟩:=h
  obtain⟨N1,S1,hs1⟩:=hgh B w0 N S a w hs
  obtain⟨t',h⟩:=slotsC_ex h
  obtain⟨m',hw,h⟩:=blksC_ex h
  obtain⟨N2,hs2⟩:=hs1.weaken hg hw
  exact⟨N2,S1,t',m',hs2,h⟩
theorem awp_sound (hT:TOk P T) (hm:P.follows .mixedOrders=true) (hg:FrOk B):∀(c:Code) (K:Ex→St→Prop) (a:Act) (w:World),OkSt B w0 (fun st=>awp P T c st K) a w→c.wp P (QK B w0 K) a w:=by
 intro c
 induction c with
 |skip=>rintro K a w ⟨N,S,t,m,hs,h⟩;exact wp_skip ⟨N,S,t,m,hs,h⟩
 |region id ops draw=>
  intro K a w h
  simp only[awp] at h
  obtain⟨N,S,t,m,hs,h⟩:=join_sound hg h
  cases draw with
  |true=>
   simp only[if_true] at h
   exact draw_sound hT hm (K:=K .normal) (fun a w h=>h) ⟨N,S,t,m,hs,h⟩
  |false=>
   simp only[Bool.false_eq_true,if_false] at h
   exact wp_region_list (ops_sound hT (K:=K .normal) (fun a w h=>h) ops.toList a w ⟨N,S,t,m,hs,h⟩)
 |seq x y ihx ihy=>
  rintro K a w ⟨N,S,t,m,hs,h⟩
  simp only[awp] at h
  refine wp_seq (Go.wp_mono (ihx _ a w ⟨N,S,t,m,hs,h⟩) ?_)
  intro e a w h
  cases e<;>simp only[QK,Exit.then] at h⊢
  ·exact ihy K a w h
  ·exact h
  ·exact h
 |cond c x y ihx ihy=>
  rintro K a w ⟨N,S,t,m,hs,h⟩
  simp only[awp] at h
  have hr:=hs.ev c
  generalize hu:a.eval c=u at hr
  split at h
  ·rename_i hev
   rw[hev] at hr
   cases hr
   exact wp_cond hu (ihx K a w ⟨N,S,t,m,hs,h⟩)
  ·rename_i hev
   rw[hev] at hr
   cases hr
   exact wp_cond hu (ihy K a w ⟨N,S,t,m,hs,h⟩)
  ·rename_i b d hev
   rw[hev] at hr
   cases hr
   have h:=h b rfl
   rw[setK_eq] at h
   have hb:t[d]?=some (.cv (.bool b)):=by
    simp only[ev,List.getD_eq_getElem?_getD] at hev
    cases hd:t[d]? with
    |none=>rw[hd] at hev;cases hev
    |some v=>rw[hd] at hev;simp at hev;rw[hev]
   have hs':=hs.nf (nfEq.mark (rfl:nfEq t t) hb)
   refine wp_cond hu ?_
   cases b
   ·exact ihy K a w ⟨N,S,_,m,hs',h⟩
   ·exact ihx K a w ⟨N,S,_,m,hs',h⟩
  ·exact h.elim
 |block id x ih=>
  rintro K a w ⟨N,S,t,m,hs,h⟩
  simp only[awp] at h
  refine wp_block (Go.wp_mono (ih _ a w ⟨N,S,t,m,hs,h⟩) ?_)
  intro e a w h
  cases e<;>simp only[QK,Exit.inBlock] at h⊢
  ·exact h
  ·rename_i id'
   by_cases he:id'=id
   ·simp only[he,if_true] at h⊢;exact h
   ·simp only[he,if_false] at h⊢;exact h
  ·exact h
 |loop c ih=>
  rintro K a w ⟨N,S,t,m,hs,h⟩
  simp only[awp,LoopA] at h
  obtain⟨rows,h⟩:=h
  split at h
  ·rename_i n _ _ _
   have hex0:∃n,OkSt B w0 (fun st=>unroll (awp P T c) n st K) a w:=⟨n,N,S,t,m,hs,h⟩
   let meas (a:Act) (w:World):Nat:=@dite _ (∃n,OkSt B w0 (fun st=>unroll (awp P T c) n st K) a w) (Classical.propDecidable _) (fun h=>(exists_least h).choose) (fun _=>0)
   refine wp_loop (fun a w=>∃n,OkSt B w0 (fun st=>unroll (awp P T c) n st K) a w) meas hex0 ?_
   intro a w hex
   have hmeas:meas a w=(exists_least hex).choose:=by simp only[meas,dif_pos hex]
   generalize hk:(exists_least hex).choose=k at hmeas
   have hk':=(exists_least hex).choose_spec.1
   rw[hk] at hk'
   obtain⟨N,S,t,m,hs,h⟩:=hk'
   cases k with
   |zero=>exact h.elim
   |succ k=>
    simp only[unroll] at h
    refine Go.wp_mono (ih _ a w ⟨N,S,t,m,hs,h⟩) ?_
    intro e a' w' h
    cases e<;>simp only[QK,Exit.then] at h⊢
    ·have hex':∃n,OkSt B w0 (fun st=>unroll (awp P T c) n st K) a' w':=⟨k,h⟩
     refine⟨hex',?_⟩
     have:meas a' w'≤k:=by
      simp only[meas,dif_pos hex']
      exact(exists_least hex').choose_spec.2 _ h
     omega
    ·exact h
    ·exact h
  obtain⟨N1,S1,t1,m1,hs1,X,ups,mups,I,μ,x0,hI0,hW0,hround⟩:=rows_sound rows hs h
  rw[head_eq] at hW0
  let Good (x:X) (a:Act) (w:World):Prop:=I x∧∃N S,Sat B w0 N S ((updL (ups x) (forgetL .un (Code.wr c) t1)).map (V.clean (updL (mups x) (forgetL none (Code.wr c) m1)))) (updL (mups x) (forgetL none (Code.wr c) m1)) a w
  obtain⟨N2,hs2⟩:=hs1.weaken hg hW0
  let meas (a:Act) (w:World):Nat:=@dite _ (∃n,∃x,Good x a w∧μ x=n) (Classical.propDecidable _) (fun h=>(exists_least h).choose) (fun _=>0)
  refine wp_loop (fun a w=>∃x,Good x a w) meas ⟨x0,hI0,N2,S1,hs2⟩ ?_
  rintro a w ⟨x1,hx1⟩
  have hex:∃n,∃x,Good x a w∧μ x=n:=⟨_,x1,hx1,rfl⟩
  obtain⟨x,⟨hIx,N3,S3,hs3⟩,hμ⟩:=(exists_least hex).choose_spec.1
  have hmeas:meas a w=μ x:=by simp only[meas,dif_pos hex,hμ]
  have hr:=hround x hIx
  rw[head_eq] at hr
  refine Go.wp_mono (ih _ a w ⟨N3,S3,_,_,hs3,hr⟩) ?_
  intro e a' w' h
  cases e<;>simp only[QK,Exit.then] at h⊢
  ·obtain⟨N4,S4,t4,m4,hs4,x',hI',hlt,hW⟩:=h
   rw[head_eq] at hW
   obtain⟨N5,S5,hs5⟩:=hs4.weakenR hg hW
   have hg:Good x' a' w':=⟨hI',N5,S5,hs5⟩
   refine⟨⟨x',hg⟩,?_⟩
   have hex':∃n,∃x,Good x a' w'∧μ x=n:=⟨_,x',hg,rfl⟩
   have:meas a' w'≤μ x':=by
    simp only[meas,dif_pos hex']
    exact(exists_least hex').choose_spec.2 _ ⟨x',hg,rfl⟩
   omega
  ·exact h
  ·exact h
 |exit id=>rintro K a w ⟨N,S,t,m,hs,h⟩;exact wp_exit ⟨N,S,t,m,hs,h⟩
 |ret=>rintro K a w ⟨N,S,t,m,hs,h⟩;exact wp_ret ⟨N,S,t,m,hs,h⟩
 |scope x ih=>
  rintro K a w ⟨N,S,t,m,hs,h⟩
  simp only[awp] at h
  refine wp_scope_straight (Go.wp_mono (ih K a w ⟨N,S,t,m,hs,h⟩) ?_)
  intro e a w h
  cases e<;>simp only[QK,Exit.noGoto] at h⊢ <;>exact h
 |rangeFunc f ps x y ih1 ih2=>rintro K a w ⟨N,S,t,m,hs,h⟩;exact h.elim
 |label l=>rintro K a w ⟨N,S,t,m,hs,h⟩;exact wp_label ⟨N,S,t,m,hs,h⟩
 |goto l=>rintro K a w ⟨N,S,t,m,hs,h⟩;exact h.elim
 |refuse why=>rintro K a w ⟨N,S,t,m,hs,h⟩;exact h.elim
end
end Go.Proofs.YtdccglkagfdooaaGreatDoor
