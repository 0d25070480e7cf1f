/- Texts joined by pack.py: XSyZB -/
import Derived.Test.YtglndfgmlminpaaGreatDoorSx43
set_option maxHeartbeats 4000000
set_option maxRecDepth 100000
namespace Go.Proofs.YtglndfgmlminpaaGreatDoor
open Go.RowKit
def RdIn (l:List Tok) (f:Nat) (s:Rs):Prop:=(s.fl= -1∧s.k≤l.length∧l.length<s.k+f∧s.ns.length+2*(l.length - s.k)≤2000000)∨(0≤s.fl∧s.k≤l.length∧s.ns.length≤2000010)
def RC (F:FuncId) (R:RdF Int) (l:List Tok) (e:Int) (f:Nat):Prop:=
 ∀s:Rs,s.fl= -1→s.k≤l.length→l.length<s.k+f→s.ns.length+2*(l.length - s.k)≤2000000→MCalls Tryz.prog F [.bx 0 0] (rM l e s) (int (R s).1) (rM l e (R s).2)
section
variable {l:List Tok} {e:Int} {f:Nat}
theorem Fin.num {α:Type} {c:Nat} {s:Rs} {out:PRes α} {x:α×Rs} (hg:Fin l c s out x):(x.2.fl= -1∧s.k<x.2.k∧x.2.k≤l.length∧x.2.ns.length+s.k≤s.ns.length+x.2.k)∨(0≤x.2.fl∧s.k≤x.2.k∧x.2.k≤l.length∧x.2.ns.length+2*s.k≤s.ns.length+2*x.2.k+c):=by
 cases out with
 |error o=>
  obtain⟨g1,g2,g3,g4,g5⟩:=hg.err
  exact .inr ⟨by omega,g2,g3,g4⟩
 |ok q=>
  obtain⟨j,r1,ns1⟩:=q
  obtain⟨k1,g1,g2,rfl,g4,g5⟩:=hg.ok
  rw[g5]
  exact .inl ⟨rfl,g1,g2,g4⟩
theorem GoodR.num {c:Nat} {O:RdF Int} {P:Pars} (hG:GoodR l c f O P) {s:Rs} (h1:s.fl= -1) (h2:s.k≤l.length) (h3:l.length<s.k+f):((O s).2.fl= -1∧s.k<(O s).2.k∧(O s).2.k≤l.length∧(O s).2.ns.length+s.k≤s.ns.length+(O s).2.k)∨(0≤(O s).2.fl∧s.k≤(O s).2.k∧(O s).2.k≤l.length∧(O s).2.ns.length+2*s.k≤s.ns.length+2*(O s).2.k+c):=(hG s h1 h2 h3).num
theorem rTake_num (ho:∀k,0≤offT e (l.drop k)) {s:Rs} (x:Bs) (hk:s.k≤l.length) (_hf:s.fl= -1∨0≤s.fl):(rTake l e x s).ns.length=s.ns.length∧s.k≤(rTake l e x s).k∧(rTake l e x s).k≤l.length∧(rTake l e x s).k≤s.k+1∧(s.fl= -1→((rTake l e x s).fl= -1∧(rTake l e x s).k=s.k+1)∨(0≤(rTake l e x s).fl∧(rTake l e x s).k=s.k))∧(0≤s.fl→(rTake l e x s).fl=s.fl):=by
 unfold rTake
 split
 ·rename_i h
  have:=tk_lt h
  exact⟨rfl,by(try dsimp only);omega,this,by(try dsimp only);omega,fun h=> .inl ⟨h,rfl⟩,fun _=>rfl⟩
 ·unfold rBad
  split
  ·exact⟨rfl,Nat.le_refl _,hk,by omega,fun h=>by omega,fun _=>rfl⟩
  ·exact⟨rfl,Nat.le_refl _,hk,by(try dsimp only);omega,fun h=> .inr ⟨ho _,rfl⟩,fun h=>by omega⟩
theorem GoodR.rdIn {c:Nat} {O:RdF Int} {P:Pars} (hG:GoodR l c f O P) (hc:c≤1) {s:Rs} (h1:s.fl= -1) (h2:s.k≤l.length) (h3:l.length<s.k+f) (h4:s.ns.length+2*(l.length - s.k)≤2000000):RdIn l f (O s).2:=by
 have hg:=hG s h1 h2 h3
 cases hP:P (l.drop s.k) s.ns with
 |error o=>
  rw[hP] at hg
  obtain⟨g1,g2,g3,g4,g5⟩:=hg.err
  exact .inr ⟨by omega,g3,by omega⟩
 |ok q=>
  obtain⟨j,r1,ns1⟩:=q
  rw[hP] at hg
  obtain⟨k1,g1,g2,rfl,g4,g5⟩:=hg.ok
  rw[g5]
  exact .inl ⟨rfl,g2,by(try dsimp only);omega,by(try dsimp only);omega⟩
theorem GoodR.on {c:Nat} {O:RdF Int} {P:Pars} (hG:GoodR l c f O P) {s:Rs} (h1:s.fl= -1) (h2:s.k≤l.length) (h3:l.length<s.k+f) (h:(O s).2.fl<0):s.k<(O s).2.k∧(O s).2.fl= -1:=by
 have hg:=hG s h1 h2 h3
 cases hP:P (l.drop s.k) s.ns with
 |error o=>
  rw[hP] at hg
  obtain⟨g1,g2,g3,g4,g5⟩:=hg.err
  omega
 |ok q=>
  obtain⟨j,r1,ns1⟩:=q
  rw[hP] at hg
  obtain⟨k1,g1,g2,rfl,g4,g5⟩:=hg.ok
  rw[g5]
  exact⟨g1,rfl⟩
theorem RdIn.ns {s:Rs} (h:RdIn l f s):s.ns.length≤2000010:=by rcases h with h|h<;>omega
theorem RdIn.k {s:Rs} (h:RdIn l f s):s.k≤l.length:=by rcases h with h|h<;>omega
theorem RdIn.fl {s:Rs} (h:RdIn l f s) (h1:s.fl<0):s.fl= -1∧s.k≤l.length∧l.length<s.k+f∧s.ns.length+2*(l.length - s.k)≤2000000:=by rcases h with h|h<;>omega
theorem tst_1 {K:Int} (_hK:K≠0) (a:Bs) (r:List Tok):tst K [a] r=isTk K a r:=by
 cases r with
 |nil=>simp[tst,isTk]
 |cons t r=>
  show(decide (t.kind=K)&&[a].contains t.text&&true)=(decide (t.kind=K)&&(t.text==a))
  rw[List.contains_cons,List.contains_nil,Bool.or_false,Bool.and_true]
theorem tst_2 {K:Int} (_hK:K≠0) (a b:Bs) (r:List Tok):tst K [a,b] r=(isTk K a r||isTk K b r):=by
 cases r with
 |nil=>simp[tst,isTk]
 |cons t r=>
  show(decide (t.kind=K)&&[a,b].contains t.text&&true)=(decide (t.kind=K)&&(t.text==a)||decide (t.kind=K)&&(t.text==b))
  rw[←Bool.and_or_distrib_left,List.contains_cons,List.contains_cons,List.contains_nil,Bool.or_false,Bool.and_true]
theorem tst_3 {K:Int} (_hK:K≠0) (a b c:Bs) (r:List Tok):tst K [a,b,c] r=(isTk K a r||(isTk K b r||isTk K c r)):=by
 cases r with
 |nil=>simp[tst,isTk]
 |cons t r=>
  show(decide (t.kind=K)&&[a,b,c].contains t.text&&true)=(decide (t.kind=K)&&(t.text==a)||(decide (t.kind=K)&&(t.text==b)||decide (t.kind=K)&&(t.text==c)))
  rw[←Bool.and_or_distrib_left,←Bool.and_or_distrib_left,List.contains_cons,List.contains_cons,List.contains_cons,List.contains_nil,Bool.or_false,Bool.and_true]
theorem tst_lt {K:Int} {ops:List Bs} {k:Nat} (h:tst K ops (l.drop k)=true):k<l.length:=ne_lt (tst_iff.1 h).2.2
theorem rAdd_len {n:Nd} {s:Rs}:(rAdd n s).2.ns.length=s.ns.length+1:=by simp[rAdd]
theorem chain_round {K:Int} {ops:List Bs} {O:RdF Int} {P:Pars} (hG:GoodR l 0 f O P) {g:Nat} {i:Int} {s:Rs} {R:Int×Rs} (hI:RdIn l f s) (hg:l.length≤s.k+g) (hR:chainR l K ops O g i s=R) (h1:s.fl<0) (ht:tst K ops (l.drop s.k)=true):
  let s1:=rAdv s
  s1.fl= -1∧s1.k≤l.length∧l.length<s1.k+f∧s1.ns.length+2*(l.length - s1.k)≤2000000∧s.k<l.length∧(O s1).2.ns.length≤2000010∧
  (let x:=rAdd (ndM 9 (pText (l.drop s.k)) 0 [i,(O s1).1]) (O s1).2
  (∃g',RdIn l f x.2∧l.length≤x.2.k+g'∧chainR l K ops O g' x.1 x.2=R)∧(if x.2.fl<0 then l.length - x.2.k+1 else 0)<(if s.fl<0 then l.length - s.k+1 else 0)):=by
 obtain⟨a1,a2,a3,a4⟩:=hI.fl h1
 have hk:=tst_lt ht
 dsimp only[rAdv]
 have hO:=hG.rdIn (by omega) (s:=rAdv s) a1 hk (by dsimp only[rAdv];omega) (by dsimp only[rAdv];omega)
 have hO2:=hG.on (s:=rAdv s) a1 hk (by dsimp only[rAdv];omega)
 have hO3:=hG (rAdv s) a1 hk (by dsimp only[rAdv];omega)
 dsimp only[rAdv] at hO hO2 hO3
 refine⟨a1,hk,by omega,by omega,hk,hO.ns,⟨g - 1,?_,?_,?_⟩,?_⟩
 ·rcases hO with⟨o1,o2,o3,o4⟩|⟨o1,o2,o3⟩
  ·refine .inl ⟨o1,o2,o3,?_⟩
   cases hP:P (l.drop (s.k+1)) s.ns with
   |error o=>
    rw[hP] at hO3
    obtain⟨g1,g2,g3,g4,g5⟩:=hO3.err
    omega
   |ok q=>
    obtain⟨j,r1,ns1⟩:=q
    rw[hP] at hO3
    obtain⟨k1,g1,g2,rfl,g4,g5⟩:=hO3.ok
    rw[g5] at o1 o2⊢
    simp only[rAdd,List.length_append,List.length_singleton] at o2 g4⊢
    dsimp only at g1
    omega
  ·refine .inr ⟨o1,o2,?_⟩
   rw[rAdd_len]
   cases hP:P (l.drop (s.k+1)) s.ns with
   |error o=>
    rw[hP] at hO3
    obtain⟨g1,g2,g3,g4,g5⟩:=hO3.err
    dsimp only at g2 g4
    omega
   |ok q=>
    obtain⟨j,r1,ns1⟩:=q
    rw[hP] at hO3
    obtain⟨k1,g1,g2,rfl,g4,g5⟩:=hO3.ok
    rw[g5] at o1
    dsimp only at o1
    omega
 ·show l.length≤(O ⟨s.k+1,s.ns,s.fl⟩).2.k+(g - 1)
  cases hP:P (l.drop (s.k+1)) s.ns with
  |error o=>
   rw[hP] at hO3
   obtain⟨g1,g2,g3,g4,g5⟩:=hO3.err
   dsimp only at g2
   omega
  |ok q=>
   obtain⟨j,r1,ns1⟩:=q
   rw[hP] at hO3
   obtain⟨k1,g1,g2,rfl,g4,g5⟩:=hO3.ok
   rw[g5]
   dsimp only at g1⊢
   omega
 ·obtain⟨g',rfl⟩:∃g',g=g'+1:=⟨g - 1,by omega⟩
  unfold chainR at hR
  rw[if_pos ⟨h1,ht⟩] at hR
  exact hR
 ·rw[if_pos h1]
  split
  ·rename_i h
   have:=(hO2 h).1
   show l.length - (O ⟨s.k+1,s.ns,s.fl⟩).2.k+1<_
   have:=hO.k
   omega
  ·omega
theorem chain_end {K:Int} {ops:List Bs} {O:RdF Int} {g:Nat} {i:Int} {s:Rs} {R:Int×Rs} (hR:chainR l K ops O g i s=R) (h:s.fl<0→tst K ops (l.drop s.k)=false):R=(i,s):=by
 rw[←hR]
 cases g with
 |zero=>rfl
 |succ g=>unfold chainR;rw[if_neg (fun h1=>by rw[h h1.1] at h1;exact absurd h1.2 (by decide))]
theorem rdq_and {O:RdF Int} {P:Pars} (hO:RC 202 O l e f) (hG:GoodR l 0 f O P) (hl:l.length≤1000000):RC 176 (chainG l 2 [wAnd] O) l e f:=by
 intro s h1 h2 h3 h4
 have c:=hO s h1 h2 h3 h4
 have hI:=hG.rdIn (by omega) h1 h2 h3 h4
 generalize hR:chainG l 2 [wAnd] O s=R
 unfold chainG at hR
 generalize O s=x0 at c hI hR
 obtain⟨i0,s0⟩:=x0
 dsimp only at c hI hR
 clear h1 h2 h3 h4
 refine rcx Tryz.func176 (by kernel_rfl) (by kernel_rfl) ?_
 conv=>whnf
 refine mcall (T:=TM radM) (φ:=[]) (gf:=false) c ?_
 clear c
 conv=>whnf
 refine⟨[],Int×Rs,fun⟨i,_⟩=>[(3,int i)],fun⟨_,s⟩=>[(29,some (rBox l e s 30)),(30,some (rRow s.ns))],
  fun⟨i,s⟩=>∃g,RdIn l f s∧l.length≤s.k+g∧chainR l 2 [wAnd] O g i s=R,fun⟨_,s⟩=>if s.fl<0 then l.length - s.k+1 else 0,(i0,s0),⟨_,hI,by(try dsimp only);omega,hR⟩,?_,?_⟩
 ·refine⟨rfl,?_,?_⟩<;>repeat' (first|exact trivial|exact rfl|refine and_rfl ?_|refine and_two ?_ ?_)
 clear hI hR
 rintro⟨i,s⟩ ⟨g,hI,hg,hR⟩
 conv=>whnf
 refine mcall (T:=TM radM) (φ:=[]) (gf:=false) rdq_good ?_
 conv=>whnf
 rintro(_|_) hf
 ·have hf:¬s.fl<0:=by simpa using hf
  have hR:=chain_end hR (fun h=>absurd h hf)
  subst hR
  repeat((conv=>whnf);first|refine known true rfl ?_|refine known false rfl ?_)
  conv=>whnf
  exact⟨rfl,rfl,rfl⟩
 have hf:s.fl<0:=by simpa using hf
 conv=>whnf
 refine mcall (T:=TM radM) (φ:=[]) (gf:=false) (rdq_word wAnd hl) ?_
 conv=>whnf
 rintro(_|_) hw1
 ·have hw1:isWrd wAnd (l.drop s.k)=false:=hw1
  have hR:=chain_end hR (fun _=>by rw[tst_1 (by decide)];exact hw1)
  subst hR
  repeat((conv=>whnf);first|refine known true rfl ?_|refine known false rfl ?_)
  conv=>whnf
  exact⟨rfl,rfl,rfl⟩
 have hw1:isWrd wAnd (l.drop s.k)=true:=hw1
 have ht:tst 2 [wAnd] (l.drop s.k)=true:=by rw[tst_1 (by decide)];exact hw1
 obtain⟨r1,r2,r3,r4,r5,r6,r7,r8⟩:=chain_round hG hI hg hR hf ht
 have hw:IntKind.i64.wrap (((s.k:Nat):Int)+1)=((s.k+1:Nat):Int):=wrap_succ (by omega)
 have htx:pText (l.drop s.k)=wAnd:=by
  have:=(tst_iff.1 ht).2.1
  simpa using this
 conv=>whnf
 rw[hw]
 conv=>whnf
 refine mcall (T:=TM radM) (φ:=[]) (gf:=false) (hO _ r1 r2 r3 r4) ?_
 conv=>whnf
 refine mcall (T:=TM radM) (φ:=[]) (gf:=false) (rdq_add (e:=e) (s:=(O (rAdv s)).2) (ndM 9 wAnd 0 [i,(O (rAdv s)).1]) (show(O (rAdv s)).2.ns.length≤3000000 by omega)) ?_
 rw[htx] at r7 r8
 conv=>whnf
 refine⟨rAdd (ndM 9 wAnd 0 [i,(O (rAdv s)).1]) (O (rAdv s)).2,r7,r8,?_⟩
 refine⟨rfl,?_,?_⟩<;>repeat' (first|exact trivial|exact rfl|refine and_rfl ?_|refine and_two ?_ ?_)
theorem rdq_expr {O:RdF Int} {P:Pars} (hO:RC 176 O l e f) (hG:GoodR l 0 f O P) (hl:l.length≤1000000):RC 147 (chainG l 2 [wOr] O) l e f:=by
 intro s h1 h2 h3 h4
 have c:=hO s h1 h2 h3 h4
 have hI:=hG.rdIn (by omega) h1 h2 h3 h4
 generalize hR:chainG l 2 [wOr] O s=R
 unfold chainG at hR
 generalize O s=x0 at c hI hR
 obtain⟨i0,s0⟩:=x0
 dsimp only at c hI hR
 clear h1 h2 h3 h4
 refine rcx Tryz.func147 (by kernel_rfl) (by kernel_rfl) ?_
 conv=>whnf
 refine mcall (T:=TM radM) (φ:=[]) (gf:=false) c ?_
 clear c
 conv=>whnf
 refine⟨[],Int×Rs,fun⟨i,_⟩=>[(3,int i)],fun⟨_,s⟩=>[(29,some (rBox l e s 30)),(30,some (rRow s.ns))],
  fun⟨i,s⟩=>∃g,RdIn l f s∧l.length≤s.k+g∧chainR l 2 [wOr] O g i s=R,fun⟨_,s⟩=>if s.fl<0 then l.length - s.k+1 else 0,(i0,s0),⟨_,hI,by(try dsimp only);omega,hR⟩,?_,?_⟩
 ·refine⟨rfl,?_,?_⟩<;>repeat' (first|exact trivial|exact rfl|refine and_rfl ?_|refine and_two ?_ ?_)
 clear hI hR
 rintro⟨i,s⟩ ⟨g,hI,hg,hR⟩
 conv=>whnf
 refine mcall (T:=TM radM) (φ:=[]) (gf:=false) rdq_good ?_
 conv=>whnf
 rintro(_|_) hf
 ·have hf:¬s.fl<0:=by simpa using hf
  have hR:=chain_end hR (fun h=>absurd h hf)
  subst hR
  repeat((conv=>whnf);first|refine known true rfl ?_|refine known false rfl ?_)
  conv=>whnf
  exact⟨rfl,rfl,rfl⟩
 have hf:s.fl<0:=by simpa using hf
 conv=>whnf
 refine mcall (T:=TM radM) (φ:=[]) (gf:=false) (rdq_word wOr hl) ?_
 conv=>whnf
 rintro(_|_) hw1
 ·have hw1:isWrd wOr (l.drop s.k)=false:=hw1
  have hR:=chain_end hR (fun _=>by rw[tst_1 (by decide)];exact hw1)
  subst hR
  repeat((conv=>whnf);first|refine known true rfl ?_|refine known false rfl ?_)
  conv=>whnf
  exact⟨rfl,rfl,rfl⟩
 have hw1:isWrd wOr (l.drop s.k)=true:=hw1
 have ht:tst 2 [wOr] (l.drop s.k)=true:=by rw[tst_1 (by decide)];exact hw1
 obtain⟨r1,r2,r3,r4,r5,r6,r7,r8⟩:=chain_round hG hI hg hR hf ht
 have hw:IntKind.i64.wrap (((s.k:Nat):Int)+1)=((s.k+1:Nat):Int):=wrap_succ (by omega)
 have htx:pText (l.drop s.k)=wOr:=by
  have:=(tst_iff.1 ht).2.1
  simpa using this
 conv=>whnf
 rw[hw]
 conv=>whnf
 refine mcall (T:=TM radM) (φ:=[]) (gf:=false) (hO _ r1 r2 r3 r4) ?_
 conv=>whnf
 refine mcall (T:=TM radM) (φ:=[]) (gf:=false) (rdq_add (e:=e) (s:=(O (rAdv s)).2) (ndM 9 wOr 0 [i,(O (rAdv s)).1]) (show(O (rAdv s)).2.ns.length≤3000000 by omega)) ?_
 rw[htx] at r7 r8
 conv=>whnf
 refine⟨rAdd (ndM 9 wOr 0 [i,(O (rAdv s)).1]) (O (rAdv s)).2,r7,r8,?_⟩
 refine⟨rfl,?_,?_⟩<;>repeat' (first|exact trivial|exact rfl|refine and_rfl ?_|refine and_two ?_ ?_)
theorem rdq_sum {O:RdF Int} {P:Pars} (hO:RC 250 O l e f) (hG:GoodR l 0 f O P) (hl:l.length≤1000000):RC 238 (chainG l 5 opAdd O) l e f:=by
 intro s h1 h2 h3 h4
 have c:=hO s h1 h2 h3 h4
 have hI:=hG.rdIn (by omega) h1 h2 h3 h4
 generalize hR:chainG l 5 opAdd O s=R
 unfold chainG at hR
 generalize O s=x0 at c hI hR
 obtain⟨i0,s0⟩:=x0
 dsimp only at c hI hR
 clear h1 h2 h3 h4
 refine rcx Tryz.func238 (by kernel_rfl) (by kernel_rfl) ?_
 conv=>whnf
 refine mcall (T:=TM radM) (φ:=[]) (gf:=false) c ?_
 clear c
 conv=>whnf
 refine⟨[],Int×Rs,fun⟨i,_⟩=>[(3,int i)],fun⟨_,s⟩=>[(37,some (rBox l e s 38)),(38,some (rRow s.ns))],
  fun⟨i,s⟩=>∃g,RdIn l f s∧l.length≤s.k+g∧chainR l 5 opAdd O g i s=R,fun⟨_,s⟩=>if s.fl<0 then l.length - s.k+1 else 0,(i0,s0),⟨_,hI,by(try dsimp only);omega,hR⟩,?_,?_⟩
 ·refine⟨rfl,?_,?_⟩<;>repeat' (first|exact trivial|exact rfl|refine and_rfl ?_|refine and_two ?_ ?_)
 clear hI hR
 rintro⟨i,s⟩ ⟨g,hI,hg,hR⟩
 conv=>whnf
 refine mcall (T:=TM radM) (φ:=[]) (gf:=false) rdq_good ?_
 conv=>whnf
 rintro(_|_) hf
 ·have hf:¬s.fl<0:=by simpa using hf
  have hR:=chain_end hR (fun h=>absurd h hf)
  subst hR
  repeat((conv=>whnf);first|refine known true rfl ?_|refine known false rfl ?_)
  conv=>whnf
  exact⟨rfl,rfl,rfl⟩
 have hf:s.fl<0:=by simpa using hf
 conv=>whnf
 refine mcall (T:=TM radM) (φ:=[]) (gf:=false) (rdq_sym [43] hl) ?_
 rcases hh0:isSym [43] (l.drop s.k) with _|_
 rotate_left
 ·skip
  repeat((conv=>whnf);first|refine known true rfl ?_|refine known false rfl ?_)
  have ht:tst 5 opAdd (l.drop s.k)=true:=by rw[show tst 5 opAdd (l.drop s.k)=_ from tst_2 (by decide) _ _ _];simp_all
  obtain⟨r1,r2,r3,r4,r5,r6,r7,r8⟩:=chain_round hG hI hg hR hf ht
  have hw:IntKind.i64.wrap (((s.k:Nat):Int)+1)=((s.k+1:Nat):Int):=wrap_succ (by omega)
  conv=>whnf
  refine mcall (T:=TM radM) (φ:=[]) (gf:=false) (rdq_text hl) ?_
  conv=>whnf
  rw[hw]
  conv=>whnf
  refine mcall (T:=TM radM) (φ:=[]) (gf:=false) (hO _ r1 r2 r3 r4) ?_
  conv=>whnf
  refine mcall (T:=TM radM) (φ:=[]) (gf:=false) (rdq_add (e:=e) (s:=(O (rAdv s)).2) (ndM 9 (pText (l.drop s.k)) 0 [i,(O (rAdv s)).1]) (show(O (rAdv s)).2.ns.length≤3000000 by omega)) ?_
  conv=>whnf
  refine⟨rAdd (ndM 9 (pText (l.drop s.k)) 0 [i,(O (rAdv s)).1]) (O (rAdv s)).2,r7,r8,?_⟩
  refine⟨rfl,?_,?_⟩<;>repeat' (first|exact trivial|exact rfl|refine and_rfl ?_|refine and_two ?_ ?_)
 repeat((conv=>whnf);first|refine known true rfl ?_|refine known false rfl ?_)
 conv=>whnf
 refine mcall (T:=TM radM) (φ:=[]) (gf:=false) (rdq_sym [45] hl) ?_
 rcases hh1:isSym [45] (l.drop s.k) with _|_
 ·skip
  have hR:=chain_end hR (fun _=>by rw[show tst 5 opAdd (l.drop s.k)=_ from tst_2 (by decide) _ _ _];simp_all)
  subst hR
  repeat((conv=>whnf);first|refine known true rfl ?_|refine known false rfl ?_)
  conv=>whnf
  exact⟨rfl,rfl,rfl⟩
 repeat((conv=>whnf);first|refine known true rfl ?_|refine known false rfl ?_)
 have ht:tst 5 opAdd (l.drop s.k)=true:=by rw[show tst 5 opAdd (l.drop s.k)=_ from tst_2 (by decide) _ _ _];simp_all
 obtain⟨r1,r2,r3,r4,r5,r6,r7,r8⟩:=chain_round hG hI hg hR hf ht
 have hw:IntKind.i64.wrap (((s.k:Nat):Int)+1)=((s.k+1:Nat):Int):=wrap_succ (by omega)
 conv=>whnf
 refine mcall (T:=TM radM) (φ:=[]) (gf:=false) (rdq_text hl) ?_
 conv=>whnf
 rw[hw]
 conv=>whnf
 refine mcall (T:=TM radM) (φ:=[]) (gf:=false) (hO _ r1 r2 r3 r4) ?_
 conv=>whnf
 refine mcall (T:=TM radM) (φ:=[]) (gf:=false) (rdq_add (e:=e) (s:=(O (rAdv s)).2) (ndM 9 (pText (l.drop s.k)) 0 [i,(O (rAdv s)).1]) (show(O (rAdv s)).2.ns.length≤3000000 by omega)) ?_
 conv=>whnf
 refine⟨rAdd (ndM 9 (pText (l.drop s.k)) 0 [i,(O (rAdv s)).1]) (O (rAdv s)).2,r7,r8,?_⟩
 refine⟨rfl,?_,?_⟩<;>repeat' (first|exact trivial|exact rfl|refine and_rfl ?_|refine and_two ?_ ?_)
theorem rdq_term {O:RdF Int} {P:Pars} (hO:RC 256 O l e f) (hG:GoodR l 0 f O P) (hl:l.length≤1000000):RC 250 (chainG l 5 opMul O) l e f:=by
 intro s h1 h2 h3 h4
 have c:=hO s h1 h2 h3 h4
 have hI:=hG.rdIn (by omega) h1 h2 h3 h4
 generalize hR:chainG l 5 opMul O s=R
 unfold chainG at hR
 generalize O s=x0 at c hI hR
 obtain⟨i0,s0⟩:=x0
 dsimp only at c hI hR
 clear h1 h2 h3 h4
 refine rcx Tryz.func250 (by kernel_rfl) (by kernel_rfl) ?_
 conv=>whnf
 refine mcall (T:=TM radM) (φ:=[]) (gf:=false) c ?_
 clear c
 conv=>whnf
 refine⟨[],Int×Rs,fun⟨i,_⟩=>[(3,int i)],fun⟨_,s⟩=>[(41,some (rBox l e s 42)),(42,some (rRow s.ns))],
  fun⟨i,s⟩=>∃g,RdIn l f s∧l.length≤s.k+g∧chainR l 5 opMul O g i s=R,fun⟨_,s⟩=>if s.fl<0 then l.length - s.k+1 else 0,(i0,s0),⟨_,hI,by(try dsimp only);omega,hR⟩,?_,?_⟩
 ·refine⟨rfl,?_,?_⟩<;>repeat' (first|exact trivial|exact rfl|refine and_rfl ?_|refine and_two ?_ ?_)
 clear hI hR
 rintro⟨i,s⟩ ⟨g,hI,hg,hR⟩
 conv=>whnf
 refine mcall (T:=TM radM) (φ:=[]) (gf:=false) rdq_good ?_
 conv=>whnf
 rintro(_|_) hf
 ·have hf:¬s.fl<0:=by simpa using hf
  have hR:=chain_end hR (fun h=>absurd h hf)
  subst hR
  repeat((conv=>whnf);first|refine known true rfl ?_|refine known false rfl ?_)
  conv=>whnf
  exact⟨rfl,rfl,rfl⟩
 have hf:s.fl<0:=by simpa using hf
 conv=>whnf
 refine mcall (T:=TM radM) (φ:=[]) (gf:=false) (rdq_sym [42] hl) ?_
 rcases hh0:isSym [42] (l.drop s.k) with _|_
 rotate_left
 ·skip
  repeat((conv=>whnf);first|refine known true rfl ?_|refine known false rfl ?_)
  have ht:tst 5 opMul (l.drop s.k)=true:=by rw[show tst 5 opMul (l.drop s.k)=_ from tst_3 (by decide) _ _ _ _];simp_all
  obtain⟨r1,r2,r3,r4,r5,r6,r7,r8⟩:=chain_round hG hI hg hR hf ht
  have hw:IntKind.i64.wrap (((s.k:Nat):Int)+1)=((s.k+1:Nat):Int):=wrap_succ (by omega)
  conv=>whnf
  refine mcall (T:=TM radM) (φ:=[]) (gf:=false) (rdq_text hl) ?_
  conv=>whnf
  rw[hw]
  conv=>whnf
  refine mcall (T:=TM radM) (φ:=[]) (gf:=false) (hO _ r1 r2 r3 r4) ?_
  conv=>whnf
  refine mcall (T:=TM radM) (φ:=[]) (gf:=false) (rdq_add (e:=e) (s:=(O (rAdv s)).2) (ndM 9 (pText (l.drop s.k)) 0 [i,(O (rAdv s)).1]) (show(O (rAdv s)).2.ns.length≤3000000 by omega)) ?_
  conv=>whnf
  refine⟨rAdd (ndM 9 (pText (l.drop s.k)) 0 [i,(O (rAdv s)).1]) (O (rAdv s)).2,r7,r8,?_⟩
  refine⟨rfl,?_,?_⟩<;>repeat' (first|exact trivial|exact rfl|refine and_rfl ?_|refine and_two ?_ ?_)
 repeat((conv=>whnf);first|refine known true rfl ?_|refine known false rfl ?_)
 conv=>whnf
 refine mcall (T:=TM radM) (φ:=[]) (gf:=false) (rdq_sym [47] hl) ?_
 rcases hh1:isSym [47] (l.drop s.k) with _|_
 rotate_left
 ·skip
  repeat((conv=>whnf);first|refine known true rfl ?_|refine known false rfl ?_)
  have ht:tst 5 opMul (l.drop s.k)=true:=by rw[show tst 5 opMul (l.drop s.k)=_ from tst_3 (by decide) _ _ _ _];simp_all
  obtain⟨r1,r2,r3,r4,r5,r6,r7,r8⟩:=chain_round hG hI hg hR hf ht
  have hw:IntKind.i64.wrap (((s.k:Nat):Int)+1)=((s.k+1:Nat):Int):=wrap_succ (by omega)
  conv=>whnf
  refine mcall (T:=TM radM) (φ:=[]) (gf:=false) (rdq_text hl) ?_
  conv=>whnf
  rw[hw]
  conv=>whnf
  refine mcall (T:=TM radM) (φ:=[]) (gf:=false) (hO _ r1 r2 r3 r4) ?_
  conv=>whnf
  refine mcall (T:=TM radM) (φ:=[]) (gf:=false) (rdq_add (e:=e) (s:=(O (rAdv s)).2) (ndM 9 (pText (l.drop s.k)) 0 [i,(O (rAdv s)).1]) (show(O (rAdv s)).2.ns.length≤3000000 by omega)) ?_
  conv=>whnf
  refine⟨rAdd (ndM 9 (pText (l.drop s.k)) 0 [i,(O (rAdv s)).1]) (O (rAdv s)).2,r7,r8,?_⟩
  refine⟨rfl,?_,?_⟩<;>repeat' (first|exact trivial|exact rfl|refine and_rfl ?_|refine and_two ?_ ?_)
 repeat((conv=>whnf);first|refine known true rfl ?_|refine known false rfl ?_)
 conv=>whnf
 refine mcall (T:=TM radM) (φ:=[]) (gf:=false) (rdq_sym [37] hl) ?_
 rcases hh2:isSym [37] (l.drop s.k) with _|_
 ·skip
  have hR:=chain_end hR (fun _=>by rw[show tst 5 opMul (l.drop s.k)=_ from tst_3 (by decide) _ _ _ _];simp_all)
  subst hR
  repeat((conv=>whnf);first|refine known true rfl ?_|refine known false rfl ?_)
  conv=>whnf
  exact⟨rfl,rfl,rfl⟩
 repeat((conv=>whnf);first|refine known true rfl ?_|refine known false rfl ?_)
 have ht:tst 5 opMul (l.drop s.k)=true:=by rw[show tst 5 opMul (l.drop s.k)=_ from tst_3 (by decide) _ _ _ _];simp_all
 obtain⟨r1,r2,r3,r4,r5,r6,r7,r8⟩:=chain_round hG hI hg hR hf ht
 have hw:IntKind.i64.wrap (((s.k:Nat):Int)+1)=((s.k+1:Nat):Int):=wrap_succ (by omega)
 conv=>whnf
 refine mcall (T:=TM radM) (φ:=[]) (gf:=false) (rdq_text hl) ?_
 conv=>whnf
 rw[hw]
 conv=>whnf
 refine mcall (T:=TM radM) (φ:=[]) (gf:=false) (hO _ r1 r2 r3 r4) ?_
 conv=>whnf
 refine mcall (T:=TM radM) (φ:=[]) (gf:=false) (rdq_add (e:=e) (s:=(O (rAdv s)).2) (ndM 9 (pText (l.drop s.k)) 0 [i,(O (rAdv s)).1]) (show(O (rAdv s)).2.ns.length≤3000000 by omega)) ?_
 conv=>whnf
 refine⟨rAdd (ndM 9 (pText (l.drop s.k)) 0 [i,(O (rAdv s)).1]) (O (rAdv s)).2,r7,r8,?_⟩
 refine⟨rfl,?_,?_⟩<;>repeat' (first|exact trivial|exact rfl|refine and_rfl ?_|refine and_two ?_ ?_)
end
end Go.Proofs.YtglndfgmlminpaaGreatDoor
