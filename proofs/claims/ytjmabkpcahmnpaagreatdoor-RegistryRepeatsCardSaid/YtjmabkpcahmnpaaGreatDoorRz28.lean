/- Texts joined by pack.py: XRgP XRgT XRgU XRgV XRgN XRgX -/
import Derived.Test.YtjmabkpcahmnpaaGreatDoorRz27
import Derived.Test.YtjmabkpcahmnpaaGreatDoorRz25
import Derived.Test.YtjmabkpcahmnpaaGreatDoorRz26
import Derived.Test.YtjmabkpcahmnpaaGreatDoorRz14
import Derived.Test.YtjmabkpcahmnpaaGreatDoorRz23
set_option maxHeartbeats 16000000
set_option maxRecDepth 100000
namespace Go.Proofs.YtjmabkpcahmnpaaGreatDoor
open Go.RowKit
theorem getB_put {α:Type}:∀(l:List (Bs×α)) (t:Bs) (c:α),getB (putB l t c) t=some c
 |[],t,c=>by simp[putB,getB]
 |(k,d)::l,t,c=>by
  simp only[putB]
  split
  ·rename_i e;simp[getB,e]
  ·rename_i e;simp only[getB,if_neg e];exact getB_put l t c
theorem getB_putN {α:Type}:∀(l:List (Bs×α)) (t u:Bs) (c:α),t≠u→getB (putB l t c) u=getB l u
 |[],t,u,c,h=>by simp[putB,getB,h]
 |(k,d)::l,t,u,c,h=>by
  simp only[putB]
  split
  ·rename_i e;simp only[getB];rw[e,if_neg h,if_neg h]
  ·rename_i e;simp only[getB];rw[getB_putN l t u c h]
theorem len_put {α:Type}:∀(l:List (Bs×α)) (t:Bs) (c:α),(putB l t c).length=if(getB l t).isNone=true then l.length+1 else l.length
 |[],t,c=>by simp[putB,getB]
 |(k,d)::l,t,c=>by
  simp only[putB,getB]
  split
  ·simp
  ·have:=len_put l t c
   simp only[List.length_cons,this]
   split<;>rfl
theorem neS_no {a b:Bs} (h:neS a b=false):a=b:=by
 simp only[neS,Bool.not_eq_false',beq_iff_eq] at h
 exact mk_inj (ByteArray.ext (Array.toList_inj.1 (by rw[←ByteArray.toList_eq,←ByteArray.toList_eq];exact h)))
theorem neS_self (a:Bs):neS a a=false:=by unfold neS;rw[beq_self_eq_true];rfl
theorem difF_self (m:Mf):difF m m=[]:=by
 have:all2 strB m.ops m.ops=true:=(all2_eq strB_eq).2 rfl
 simp[difF,neS_self,this,addB]
theorem addB_nil {l:List Bs} {s:Bs} {d:Bool} (h:addB l s d=[]):l=[]∧d=false:=by
 unfold addB at h
 cases d<;>simp_all
theorem difF_nil {a b:Mf} (h:difF a b=[]):a=b:=by
 unfold difF at h
 obtain⟨h,h5⟩:=addB_nil h
 obtain⟨h,h4⟩:=addB_nil h
 obtain⟨h,h3⟩:=addB_nil h
 obtain⟨h,h2⟩:=addB_nil h
 obtain⟨_,h1⟩:=addB_nil h
 obtain⟨n1,m1,s1,o1,c1⟩:=a
 obtain⟨n2,m2,s2,o2,c2⟩:=b
 have e1:=neS_no h1
 have e5:=neS_no h5
 have e4:o1=o2:=(all2_eq strB_eq).1 (by simpa using h4)
 simp only[bne_eq_false_iff_eq] at h2 h3
 simp_all
structure Rop where
 kind:Int
 ver:Int
 now:Int
 nm:Bs
 m:Mf
def retR (F:Fns) (t:Bs) (n:Int):Int×Fns:=match((getB F t).getD [])[(n - 1).toNat]? with
 |some v=>if n<1 then(5,F) else if v.rt=true then(10,F) else(0,putB F t (((getB F t).getD []).set (n - 1).toNat (retV v)))
 |none=>(5,F)
section
variable (E:Mf→Int) (Dg:Mf→Bs×Int)
def stepR (s:Fns×Int) (o:Rop):Fns×Int:=
 if o.kind=0 then(pubP s.1 s.2 o.m o.now (E o.m) (Dg o.m)).2
 else if o.kind=1 then((retR s.1 o.nm o.ver).2,s.2)
 else s
def playR (s:Fns×Int) (l:List Rop):Fns×Int:=l.foldl (stepR E Dg) s
structure VrOk (i:Nat) (v:Vr):Prop where
 n:v.n=(i:Int)+1
 ops:v.m.ops.length≤1000000
 dg:(Dg v.m).2=0
structure GoodR (F:Fns):Prop where
 few:F.length≤32
 rows:∀t l,getB F t=some l→l≠[]∧l.length≤32∧∀i v,l[i]?=some v→VrOk Dg i v
theorem good_nil:GoodR Dg []:=⟨by simp,fun t l h=>by simp[getB] at h⟩
variable {E Dg} {F:Fns} {now nw:Int} {m:Mf} {t:Bs} {l:List Vr}
theorem GoodR.put (h:GoodR Dg F) (h1:F.length<32∨(getB F t).isNone=false) (h2:l≠[]) (h3:l.length≤32) (h4:∀i v,l[i]?=some v→VrOk Dg i v):GoodR Dg (putB F t l):=by
 refine⟨?_,fun u k hk=>?_⟩
 ·rw[len_put]
  have:=h.few
  split
  ·rename_i h5;rcases h1 with h1|h1
   ·omega
   ·rw[h1] at h5;cases h5
  ·exact this
 ·by_cases e:t=u
  ·subst e
   rw[getB_put] at hk
   cases hk
   exact⟨h2,h3,h4⟩
  ·rw[getB_putN _ _ _ _ e] at hk
   exact h.rows u k hk
theorem pub_ok (h:GoodR Dg F) (hm:m.ops.length≤1000000) {r:(Int×Int)×Fns×Int} (hr:pubP F now m nw (E m) (Dg m)=r) (h0:r.1.2=0):
  E m=0∧¬(nw<0∨nw>1073741824)∧r.2.2=nw∧(Dg m).2=0∧GoodR Dg r.2.1∧∃l v,getB r.2.1 m.nm=some (l++[v])∧r.1.1=((l.length+1:Nat):Int)∧v.m=m∧v.rt=false:=by
 unfold pubP at hr
 split at hr
 ·subst hr;rename_i h1;exact absurd h0 h1
 rename_i h1
 split at hr
 ·subst hr;simp at h0
 rename_i h2
 split at hr
 ·subst hr;simp at h0
 rename_i h3
 have h1:E m=0:=by simpa using h1
 split at hr
 ·rename_i h4
  subst hr
  cases hg:getB F m.nm with
  |none=>rw[hg] at h4;simp[pubL] at h4
  |some k=>
   rw[hg] at h4
   simp only[Option.getD_some] at h4⊢
   obtain⟨hne,hk,hv⟩:=h.rows _ _ hg
   obtain⟨l,v,rfl⟩:∃l v,k=l++[v]:=⟨_,_,(List.dropLast_concat_getLast hne).symm⟩
   simp only[pubL,List.getLast?_append,List.getLast?_singleton,Option.some_or,Bool.and_eq_true,beq_iff_eq,Bool.not_eq_true'] at h4
   obtain⟨h5,h6⟩:=h4
   have e:=difF_nil (List.length_eq_zero_iff.1 (by omega:(difF v.m m).length=0))
   have:=hv l.length v (by simp)
   refine⟨h1,h2,trivial,by rw[←e];exact this.dg,h,l,v,rfl,by simp,e,h5⟩
 rename_i h4
 split at hr
 ·subst hr;simp at h0
 rename_i h5
 split at hr
 ·subst hr;rename_i h6;exact absurd h0 h6
 rename_i h6
 have h6:(Dg m).2=0:=by simpa using h6
 subst hr
 simp only[not_or,not_and,Nat.not_le] at h5
 refine⟨h1,h2,rfl,h6,h.put ?_ (by simp) (by simp;omega) ?_,_,_,getB_put _ _ _,by simp,rfl,rfl⟩
 ·cases hg:(getB F m.nm).isNone with
  |true=>exact .inl (h5.1 hg)
  |false=>exact .inr rfl
 ·intro i v hv
  rw[List.getElem?_append] at hv
  split at hv
  ·cases hg:getB F m.nm with
   |none=>rw[hg] at hv;simp at hv
   |some k=>rw[hg] at hv;exact(h.rows _ _ hg).2.2 i v hv
  ·rename_i h7
   rw[List.getElem?_singleton] at hv
   split at hv
   ·cases hv
    refine⟨?_,hm,h6⟩
    dsimp only
    omega
   ·cases hv
theorem pub_err {r:(Int×Int)×Fns×Int} (hr:pubP F now m nw (E m) (Dg m)=r) (h0:r.1.2≠0):r.1.1=0∧r.2=(F,now):=by
 unfold pubP at hr
 split at hr
 ·subst hr;exact⟨rfl,rfl⟩
 split at hr
 ·subst hr;exact⟨rfl,rfl⟩
 split at hr
 ·subst hr;exact⟨rfl,rfl⟩
 split at hr
 ·subst hr;simp at h0
 split at hr
 ·subst hr;exact⟨rfl,rfl⟩
 split at hr
 ·subst hr;exact⟨rfl,rfl⟩
 ·subst hr;simp at h0
theorem GoodR.pub (h:GoodR Dg F) (hm:m.ops.length≤1000000):GoodR Dg (pubP F now m nw (E m) (Dg m)).2.1:=by
 by_cases h0:(pubP F now m nw (E m) (Dg m)).1.2=0
 ·exact(pub_ok h hm rfl h0).2.2.2.2.1
 ·rw[(pub_err rfl h0).2];exact h
theorem GoodR.ret (h:GoodR Dg F) (t:Bs) (n:Int):GoodR Dg (retR F t n).2:=by
 unfold retR
 split
 ·rename_i v hv
  split
  ·exact h
  split
  ·exact h
  cases hg:getB F t with
  |none=>rw[hg] at hv;simp at hv
  |some k=>
   rw[hg] at hv
   simp only[Option.getD_some] at hv⊢
   obtain⟨h1,h2,h3⟩:=h.rows _ _ hg
   refine h.put (.inr (by rw[hg];rfl)) (by simpa using h1) (by simpa using h2) fun i u hu=>?_
   rw[List.getElem?_set] at hu
   split at hu
   ·rename_i e
    split at hu
    ·cases hu
     subst e
     have:=h3 _ _ hv
     exact⟨this.n,this.ops,this.dg⟩
    ·cases hu
   ·exact h3 i u hu
 ·exact h
def Kept (F F':Fns) (t:Bs):Prop:=∀l:List Vr,getB F t=some l→∃l':List Vr,getB F' t=some l'∧l.length≤l'.length∧∀(i:Nat) (v:Vr),l[i]?=some v→∃v':Vr,l'[i]?=some v'∧v'.m=v.m∧v'.n=v.n∧v'.dg=v.dg∧v'.at_=v.at_∧(v.rt=true→v'.rt=true)
theorem Kept.refl (F:Fns) (t:Bs):Kept F F t:=fun l h=>⟨l,h,Nat.le_refl _,fun _ v hv=>⟨v,hv,rfl,rfl,rfl,rfl,id⟩⟩
theorem Kept.trans {F1 F2 F3:Fns} {t:Bs} (h1:Kept F1 F2 t) (h2:Kept F2 F3 t):Kept F1 F3 t:=by
 intro l hl
 obtain⟨l2,e2,n2,k2⟩:=h1 l hl
 obtain⟨l3,e3,n3,k3⟩:=h2 l2 e2
 refine⟨l3,e3,by omega,fun i v hv=>?_⟩
 obtain⟨v2,q2,a2,b2,c2,d2,f2⟩:=k2 i v hv
 obtain⟨v3,q3,a3,b3,c3,d3,f3⟩:=k3 i v2 q2
 exact⟨v3,q3,a3.trans a2,b3.trans b2,c3.trans c2,d3.trans d2,fun h=>f3 (f2 h)⟩
theorem Kept.put {u:Bs} {l':List Vr} (h:t=u→∀l,getB F t=some l→l.length≤l'.length∧∀(i:Nat) (v:Vr),l[i]?=some v→∃v':Vr,l'[i]?=some v'∧v'.m=v.m∧v'.n=v.n∧v'.dg=v.dg∧v'.at_=v.at_∧(v.rt=true→v'.rt=true)):Kept F (putB F u l') t:=by
 intro l hl
 by_cases e:u=t
 ·subst e
  exact⟨l',getB_put _ _ _,h rfl l hl⟩
 ·exact⟨l,by rw[getB_putN _ _ _ _ e];exact hl,Nat.le_refl _,fun i v hv=>⟨v,hv,rfl,rfl,rfl,rfl,id⟩⟩
theorem kept_pub (F:Fns) (now:Int) (m:Mf) (nw:Int) (ck:Int) (d:Bs×Int) (t:Bs):Kept F (pubP F now m nw ck d).2.1 t:=by
 unfold pubP
 split
 ·exact Kept.refl _ _
 split
 ·exact Kept.refl _ _
 split
 ·exact Kept.refl _ _
 split
 ·exact Kept.refl _ _
 split
 ·exact Kept.refl _ _
 split
 ·exact Kept.refl _ _
 refine Kept.put fun e l hl=>?_
 subst e
 rw[hl]
 refine⟨by simp,fun i v hv=>⟨v,?_,rfl,rfl,rfl,rfl,id⟩⟩
 simp only[Option.getD_some]
 rw[List.getElem?_append_left (List.getElem?_eq_some_iff.1 hv).1]
 exact hv
theorem kept_ret (F:Fns) (u:Bs) (n:Int) (t:Bs):Kept F (retR F u n).2 t:=by
 unfold retR
 split
 ·rename_i v hv
  split
  ·exact Kept.refl _ _
  split
  ·exact Kept.refl _ _
  refine Kept.put fun e l hl=>?_
  subst e
  rw[hl] at hv⊢
  simp only[Option.getD_some] at hv⊢
  refine⟨by simp,fun i x hx=>?_⟩
  by_cases e:(n - 1).toNat=i
  ·subst e
   rw[hv] at hx;cases hx
   exact⟨retV v,by rw[List.getElem?_set_self (List.getElem?_eq_some_iff.1 hv).1],rfl,rfl,rfl,rfl,fun _=>rfl⟩
  ·exact⟨x,by rw[List.getElem?_set_ne e];exact hx,rfl,rfl,rfl,rfl,id⟩
 ·exact Kept.refl _ _
theorem GoodR.step {s:Fns×Int} (h:GoodR Dg s.1) {o:Rop} (ho:o.m.ops.length≤1000000):GoodR Dg (stepR E Dg s o).1:=by
 unfold stepR
 split
 ·exact h.pub ho
 split
 ·exact h.ret _ _
 ·exact h
theorem kept_step (s:Fns×Int) (o:Rop) (t:Bs):Kept s.1 (stepR E Dg s o).1 t:=by
 unfold stepR
 split
 ·exact kept_pub _ _ _ _ _ _ _
 split
 ·exact kept_ret _ _ _ _
 ·exact Kept.refl _ _
theorem GoodR.play:∀(l:List Rop) {s:Fns×Int},GoodR Dg s.1→(∀o∈l,o.m.ops.length≤1000000)→GoodR Dg (playR E Dg s l).1
 |[],s,h,_=>h
 |o::l,s,h,ho=>GoodR.play l (s:=stepR E Dg s o) (h.step (ho o (by simp))) fun x hx=>ho x (by simp[hx])
theorem kept_play:∀(l:List Rop) (s:Fns×Int) (t:Bs),Kept s.1 (playR E Dg s l).1 t
 |[],_,_=>Kept.refl _ _
 |o::l,s,t=>(kept_step s o t).trans (kept_play l _ t)
theorem play_take {l:List Rop} {k:Nat} (hk:k<l.length) (s:Fns×Int):playR E Dg s (l.take (k+1))=stepR E Dg (playR E Dg s (l.take k)) l[k]:=by
 rw[List.take_succ_eq_append_getElem hk]
 unfold playR
 rw[List.foldl_append]
 rfl
theorem pub_again {G:Fns} {v:Vr} (hg:getB G m.nm=some (l++[v])) (hE:E m=0) (hn:¬(nw<0∨nw>1073741824)) (hv:v.m=m) (hr:v.rt=false):
  pubP G nw m nw (E m) (Dg m)=((((l.length+1:Nat):Int),0),G,nw):=by
 have h1:pubL (l++[v]) m=true:=by
  simp only[pubL,List.getLast?_append,List.getLast?_singleton,Option.some_or,hv,difF_self,hr]
  rfl
 unfold pubP
 rw[hg,if_neg (by simp[hE]),if_neg hn,if_neg (by omega)]
 simp only[Option.getD_some]
 rw[if_pos h1]
 simp
theorem ret_last {G:Fns} {v:Vr} {t:Bs} (hg:getB G t=some (l++[v])) (hr:v.rt=false):retR G t ((l.length+1:Nat):Int)=(0,putB G t (l++[retV v])):=by
 unfold retR
 rw[hg]
 have e:(((l.length+1:Nat):Int) - 1).toNat=l.length:=by omega
 rw[e]
 simp only[Option.getD_some,List.getElem?_concat_length]
 rw[if_neg (by omega),if_neg (by simp[hr]),List.set_append_right _ _ (Nat.le_refl _)]
 simp
theorem ret_twice {G:Fns} {v:Vr} {t:Bs}:retR (putB G t (l++[retV v])) t ((l.length+1:Nat):Int)=(10,putB G t (l++[retV v])):=by
 unfold retR
 rw[getB_put]
 have e:(((l.length+1:Nat):Int) - 1).toNat=l.length:=by omega
 rw[e]
 simp only[Option.getD_some,List.getElem?_concat_length]
 rw[if_neg (by omega),if_pos (show(retV v).rt=true from rfl)]
theorem pub_next {G:Fns} {v:Vr} (hl:l.length+1≤32) (hE:E m=0) (hn:¬(nw<0∨nw>1073741824)) (hd:(Dg m).2=0):
  (pubP (putB G m.nm (l++[retV v])) nw m nw (E m) (Dg m)).1=if l.length+1=32 then(0,3) else(((l.length+1:Nat):Int)+1,0):=by
 have h1:pubL (l++[retV v]) m=false:=by
  simp only[pubL,List.getLast?_append,List.getLast?_singleton,Option.some_or,retV]
  rfl
 unfold pubP
 rw[getB_put,if_neg (by simp[hE]),if_neg hn,if_neg (by omega)]
 simp only[Option.getD_some,h1,Option.isNone_some,Bool.false_eq_true,false_and,false_or,if_false,List.length_append,List.length_singleton]
 by_cases h:l.length+1=32
 ·rw[if_pos h,if_pos (by omega)]
 ·rw[if_neg h,if_neg (by omega),if_neg (by simp[hd])]
end
end Go.Proofs.YtjmabkpcahmnpaaGreatDoor
namespace Go.Proofs.YtjmabkpcahmnpaaGreatDoor
open Go.RowKit
theorem x_retire (F:Fns) (now:Int) (t:Bs) (n:Int) (hl:((getB F t).getD []).length≤1000000):MCalls Tryz.prog 12 [.bx 0 0,bstr t,int n] (rgM F now) (int (retR F t n).1) (rgM (retR F t n).2 now):=by
 by_cases h:n<1∨(((getB F t).getD []).length:Int)<n
 ·have e:retR F t n=(5,F):=by
   unfold retR
   split
   ·rename_i v hv
    have:=(List.getElem?_eq_some_iff.1 hv).1
    rw[if_pos (by omega)]
   ·rfl
  rw[e]
  exact x_retN F now t n h hl
 cases hg:getB F t with
 |none=>rw[hg] at h;simp at h;omega
 |some l=>
  rw[hg] at h hl
  simp only[Option.getD_some] at h hl
  obtain⟨k,rfl⟩:∃k:Nat,n=(k:Int)+1:=⟨(n - 1).toNat,by omega⟩
  have hk:k<l.length:=by omega
  have e:retR F t ((k:Int)+1)=((if l[k].rt then 10 else 0),putB F t (l.set k (retV l[k]))):=by
   unfold retR
   rw[hg,show((k:Int)+1 - 1).toNat=k by omega]
   simp only[Option.getD_some,List.getElem?_eq_getElem hk]
   rw[if_neg (by omega)]
   cases hr:l[k].rt with
   |false=>rfl
   |true=>
    have:retV l[k]=l[k]:=by
     unfold retV
     cases hv:l[k] with
     |mk a b c d e'=>rw[hv] at hr;dsimp only at hr⊢;rw[hr]
    rw[if_pos rfl,if_pos rfl,this,List.set_getElem_self,putB_same hg]
  rw[e]
  exact x_retY F now t l hg k hk hl
theorem x_get (F:Fns) (now:Int) (t:Bs) (n:Int) (hl:((getB F t).getD []).length≤1000000) (ho:∀v∈(getB F t).getD [],v.m.ops.length≤1000000):
  MCalls Tryz.prog 13 [.bx 0 0,bstr t,int n] (rgM F now) (.tu [(getP F t n).1.V,int (getP F t n).2]) (rgM F now):=by
 by_cases h:n<1∨(((getB F t).getD []).length:Int)<n
 ·have e:getP F t n=(noMf,5):=by
   unfold getP
   split
   ·rename_i v hv
    have:=(List.getElem?_eq_some_iff.1 hv).1
    rw[if_pos (by omega)]
   ·rfl
  rw[e]
  exact x_getN F now t n h hl
 cases hg:getB F t with
 |none=>rw[hg] at h;simp at h;omega
 |some l=>
  rw[hg] at h hl ho
  simp only[Option.getD_some] at h hl ho
  obtain⟨k,rfl⟩:∃k:Nat,n=(k:Int)+1:=⟨(n - 1).toNat,by omega⟩
  have hk:k<l.length:=by omega
  have e:getP F t ((k:Int)+1)=((if l[k].rt then noMf else l[k].m),if l[k].rt then 18 else 0):=by
   unfold getP
   rw[hg,show((k:Int)+1 - 1).toNat=k by omega]
   simp only[Option.getD_some,List.getElem?_eq_getElem hk]
   rw[if_neg (by omega)]
   split<;>rfl
  rw[e]
  exact x_getY F now t l hg k hk hl (ho _ (List.getElem_mem hk))
def ropD (o:Rop):List D:=[.cv (.int .i64 o.kind),.cv (.int .i64 o.ver),.cv (.int .i64 o.now),.cv (.string (mk o.nm)),.cv (.string (mk o.m.nm)),.cv (.int .i64 o.m.me),.cv (.int .i64 o.m.st),.sl 1 (o.m.ops.map strD),.cv (.string (mk o.m.src))]
abbrev ropsV (l:List Rop):V:= .sl true 9 (l.map ropD)
def smS (s:Bs):Bool:=decide (s.length≤100)
def smM (m:Mf):Bool:=decide (m.src.length≤1000)&&(decide (m.nm.length≤100)&&(decide (m.ops.length≤20)&&m.ops.all smS))
def smO (o:Rop):Bool:=decide (o.nm.length≤100)&&smM o.m
def smL (l:List Rop):Bool:=decide (l.length≤40)&&l.all smO
theorem x_small (l:List Rop) (hl:l.length≤8796093022207) (ho:∀o∈l,o.m.ops.length≤8796093022207):DCalls Tryz.prog 6 [ropsV l] (boo (smL l)):=by
 refine sx Tryz.func6 (by kernel_rfl) ?_
 conv=>whnf
 rintro(_|_) h0
 rotate_left
 ·have h0:¬l.length≤40:=by simp at h0;omega
  conv=>whnf
  exact fin_boo (by simp[smL,h0])
 have h0:l.length≤40:=by simp at h0;omega
 generalize hR:smL l=R
 have hR:l.all smO=R:=by rw[←hR];simp[smL,h0]
 conv=>whnf
 refine⟨[],Nat,fun k=>[(11,int k)],fun _=>[],fun k=>k≤l.length∧(l.drop k).all smO=R,fun k=>l.length - k,0,⟨Nat.zero_le _,hR⟩,?_,?_⟩
 ·refine⟨rfl,?_,?_⟩<;>repeat' (first|exact trivial|exact rfl|refine and_rfl ?_|refine and_two ?_ ?_)
 rintro k ⟨hk1,hk⟩
 conv=>whnf
 rintro(_|_) h2
 ·simp at h2
  rw[List.drop_eq_nil_of_le h2] at hk
  conv=>whnf
  exact fin_boo (by rw[←hk];rfl)
 have h2:k<l.length:=by simp at h2;omega
 have hol:=ho _ (List.getElem_mem h2)
 rw[List.drop_eq_getElem_cons h2,List.all_cons] at hk
 have gk:=get_map ropD h2
 generalize l[k]=o at hk hol gk
 obtain⟨ki,ve,nw,nm,mm⟩:=o
 obtain⟨mn,me,st,ops,src⟩:=mm
 dsimp only at hol
 have hnot:∀{b:Bool},smO ⟨ki,ve,nw,nm,⟨mn,me,st,ops,src⟩⟩=b→(b&&(l.drop (k+1)).all smO)=R:=fun h=>by rw[←h];exact hk
 conv=>whnf
 refine⟨by omega,_,gk,?_⟩
 conv=>whnf
 rintro(_|_) h3
 rotate_left
 ·have h3:¬src.length≤1000:=by simp[mk_size] at h3;omega
  have hk:=hnot (b:=false) (by simp[smO,smM,h3])
  exact fin_boo (by rw[←hk];rfl)
 have h3:src.length≤1000:=by simp[mk_size] at h3;omega
 conv=>whnf
 rintro(_|_) h4
 rotate_left
 ·have h4:¬mn.length≤100:=by simp[mk_size] at h4;omega
  have hk:=hnot (b:=false) (by simp[smO,smM,h3,h4])
  exact fin_boo (by rw[←hk];rfl)
 have h4:mn.length≤100:=by simp[mk_size] at h4;omega
 conv=>whnf
 refine⟨by omega,_,gk,?_⟩
 conv=>whnf
 rintro(_|_) h5
 rotate_left
 ·have h5:¬nm.length≤100:=by simp[mk_size] at h5;omega
  have hk:=hnot (b:=false) (by simp[smO,h5])
  exact fin_boo (by rw[←hk];rfl)
 have h5:nm.length≤100:=by simp[mk_size] at h5;omega
 conv=>whnf
 rintro(_|_) h6
 rotate_left
 ·have h6:¬ops.length≤20:=by simp at h6;omega
  have hk:=hnot (b:=false) (by simp[smO,smM,h6])
  exact fin_boo (by rw[←hk];rfl)
 have h6:ops.length≤20:=by simp at h6;omega
 have hk:(ops.all smS&&(l.drop (k+1)).all smO)=R:=hnot (by simp[smO,smM,h3,h4,h5,h6])
 conv=>whnf
 refine⟨[],Nat,fun j=>[(11,int k),(47,int j)],fun _=>[(4,some (.box [.cv (.string (mk mn)),.cv (.int .i64 me),.cv (.int .i64 st),.sl false 1 (ops.map strD),.cv (.string (mk src))]))],fun j=>j≤ops.length∧((ops.drop j).all smS&&(l.drop (k+1)).all smO)=R,fun j=>ops.length - j,0,⟨Nat.zero_le _,hk⟩,?_,?_⟩
 ·refine⟨rfl,?_,?_⟩<;>repeat' (first|exact trivial|exact rfl|refine and_rfl ?_|refine and_two ?_ ?_)
 rintro j ⟨hj1,hj⟩
 conv=>whnf
 rintro(_|_) h7
 ·simp at h7
  rw[List.drop_eq_nil_of_le h7] at hj
  conv=>whnf
  refine⟨k+1,⟨h2,hj⟩,by dsimp only;omega,?_⟩
  refine⟨rfl,?_,?_⟩<;>repeat' (first|exact trivial|exact rfl|refine and_rfl ?_|refine and_val (wrap_succ (by omega)) ?_|refine and_two ?_ ?_)
 have h7:j<ops.length:=by simp at h7;omega
 rw[List.drop_eq_getElem_cons h7,List.all_cons] at hj
 conv=>whnf
 refine⟨by omega,_,get_map strD h7,?_⟩
 conv=>whnf
 rintro(_|_) h8
 ·have h8:ops[j].length≤100:=by simp[mk_size] at h8;omega
  conv=>whnf
  refine⟨j+1,⟨h7,by rw[←hj];simp[smS,h8]⟩,by dsimp only;omega,?_⟩
  refine⟨rfl,?_,?_⟩<;>repeat' (first|exact trivial|exact rfl|refine and_rfl ?_|refine and_val (wrap_succ (by omega)) ?_|refine and_two ?_ ?_)
 ·have h8:¬ops[j].length≤100:=by simp[mk_size] at h8;omega
  conv=>whnf
  exact fin_boo (by rw[←hj];simp[smS,h8])
end Go.Proofs.YtjmabkpcahmnpaaGreatDoor
namespace Go.Proofs.YtjmabkpcahmnpaaGreatDoor
open Go.RowKit
structure MfRg (m:Mf):Prop where
 me: -9223372036854775808≤m.me∧m.me≤9223372036854775807
 st: -9223372036854775808≤m.st∧m.st≤9223372036854775807
def PubOk (E:Mf→Int) (Dg:Mf→Bs×Int):Prop:=∀(F:Fns) (now:Int) (m:Mf) (nw:Int),smM m=true→MfRg m→GoodR Dg F→
 MCalls Tryz.prog 10 [.bx 0 0,mfL m,int nw] (rgM F now) (.tu [int (pubP F now m nw (E m) (Dg m)).1.1,int (pubP F now m nw (E m) (Dg m)).1.2]) (rgM (pubP F now m nw (E m) (Dg m)).2.1 (pubP F now m nw (E m) (Dg m)).2.2)
theorem GoodR.rl {Dg:Mf→Bs×Int} {F:Fns} (h:GoodR Dg F) (t:Bs):((getB F t).getD []).length≤32:=by
 cases hg:getB F t with
 |none=>simp
 |some l=>exact(h.rows _ _ hg).2.1
theorem smM_ops {m:Mf} (h:smM m=true):m.ops.length≤20:=by simp[smM] at h;exact h.2.2.1
theorem smL_of {l:List Rop} (h:smL l=true):l.length≤40∧∀o∈l,smM o.m=true:=by
 simp only[smL,Bool.and_eq_true,decide_eq_true_eq,List.all_eq_true] at h
 exact⟨h.1,fun o ho=>by have:=h.2 o ho;simp only[smO,Bool.and_eq_true] at this;exact this.2⟩
def pyM:List (Nat×Bool):=[(15,false),(10,false),(12,false)]
theorem x_played {E:Mf→Int} {Dg:Mf→Bs×Int} (hP:PubOk E Dg) (l:List Rop) (hl:smL l=true) (hr:∀o∈l,MfRg o.m):
  MCalls Tryz.prog 9 [.sl false 9 (l.map ropD)] [] (.bx 0 0) (rgM (playR E Dg ([],0) l).1 (playR E Dg ([],0) l).2):=by
 obtain⟨h40,hsm⟩:=smL_of hl
 refine msxm pyM Tryz.func9 (by kernel_rfl) (by kernel_rfl) ?_
 conv=>whnf
 refine mcallV (T:=TM pyM) (φ:=[70,71]) (ρ:=[]) (ln:=true) x_rgnew ?_
 conv=>whnf
 refine known false rfl ?_
 conv=>whnf
 refine⟨[],Nat×Fns×Int,fun⟨k,_,_⟩=>[(3,.bx 70 0),(10,int k)],fun⟨_,F,now⟩=>[(70,some (.box [.ow 71 0,int now])),(71,some (.asr 0 (mapC (vM F)) []))],fun⟨k,F,now⟩=>k≤l.length∧GoodR Dg F∧playR E Dg ([],0) (l.take k)=(F,now),fun⟨k,_,_⟩=>l.length - k,(0,[],0),⟨Nat.zero_le _,good_nil Dg,rfl⟩,?_,?_⟩
 ·refine⟨rfl,?_,?_⟩<;>repeat' (first|exact trivial|exact rfl|refine and_rfl ?_|refine and_two ?_ ?_)
 rintro⟨k,F,now⟩ ⟨hk1,hG,hpl⟩
 conv=>whnf
 rintro(_|_) h2
 ·simp at h2
  rw[List.take_of_length_le h2] at hpl
  rw[hpl]
  conv=>whnf
  exact⟨rfl,rfl,rfl⟩
 have h2:k<l.length:=by simp at h2;omega
 have gk:=get_map ropD h2
 have hm:=hsm _ (List.getElem_mem h2)
 have hrg:=hr _ (List.getElem_mem h2)
 have hst:playR E Dg ([],0) (l.take (k+1))=stepR E Dg (playR E Dg ([],0) (l.take k)) l[k]:=play_take h2 _
 rw[hpl] at hst
 have hG':GoodR Dg (stepR E Dg (F,now) l[k]).1:=GoodR.step (s:=(F,now)) hG (by have:=smM_ops hm;omega)
 conv=>whnf
 refine⟨by omega,_,gk,?_⟩
 conv=>whnf
 rintro(_|_) h3
 ·have h3:l[k].kind≠0:=by simpa using h3
  conv=>whnf
  refine⟨by omega,_,gk,?_⟩
  conv=>whnf
  rintro(_|_) h4
  ·have h4:l[k].kind≠1:=by simpa using h4
   have e:stepR E Dg (F,now) l[k]=(F,now):=by unfold stepR;rw[if_neg h3,if_neg h4]
   conv=>whnf
   refine⟨(k+1,F,now),⟨h2,hG,by rw[hst,e]⟩,by dsimp only;omega,?_⟩
   refine⟨rfl,?_,?_⟩<;>repeat' (first|exact trivial|exact rfl|refine and_rfl ?_|refine and_val (wrap_succ (by omega)) ?_|refine and_two ?_ ?_)
  ·have h4:l[k].kind=1:=by simpa using h4
   have e:stepR E Dg (F,now) l[k]=((retR F l[k].nm l[k].ver).2,now):=by unfold stepR;rw[if_neg h3,if_pos h4]
   rw[e] at hst hG'
   conv=>whnf
   refine⟨none,by kernel_rfl,?_⟩
   conv=>whnf
   refine⟨by omega,_,gk,?_⟩
   conv=>whnf
   refine⟨by omega,_,gk,?_⟩
   conv=>whnf
   refine mcallV (T:=TM pyM) (φ:=[]) (ρ:=[70,71]) (ln:=true) (gf:=false) (x_retire F now l[k].nm l[k].ver (by have:=hG.rl l[k].nm;omega)) ?_
   conv=>whnf
   refine⟨(k+1,(retR F l[k].nm l[k].ver).2,now),⟨h2,hG',hst⟩,by dsimp only;omega,?_⟩
   refine⟨rfl,?_,?_⟩<;>repeat' (first|exact trivial|exact rfl|refine and_rfl ?_|refine and_val (wrap_succ (by omega)) ?_|refine and_two ?_ ?_)
 ·have h3:l[k].kind=0:=by simpa using h3
  have e:stepR E Dg (F,now) l[k]=(pubP F now l[k].m l[k].now (E l[k].m) (Dg l[k].m)).2:=by unfold stepR;rw[if_pos h3]
  rw[e] at hst hG'
  conv=>whnf
  refine⟨none,by kernel_rfl,?_⟩
  conv=>whnf
  refine⟨by omega,_,gk,?_⟩
  conv=>whnf
  refine⟨by omega,_,gk,?_⟩
  conv=>whnf
  refine mcallV (T:=TM pyM) (φ:=[]) (ρ:=[70,71]) (ln:=true) (gf:=false) (hP F now l[k].m l[k].now hm hrg hG) ?_
  conv=>whnf
  refine⟨by omega,_,gk,?_⟩
  conv=>whnf
  refine known false (by simp[h3]) ?_
  conv=>whnf
  refine⟨(k+1,(pubP F now l[k].m l[k].now (E l[k].m) (Dg l[k].m)).2.1,(pubP F now l[k].m l[k].now (E l[k].m) (Dg l[k].m)).2.2),⟨h2,hG',hst⟩,by dsimp only;omega,?_⟩
  refine⟨rfl,?_,?_⟩<;>repeat' (first|exact trivial|exact rfl|refine and_rfl ?_|refine and_val (wrap_succ (by omega)) ?_|refine and_two ?_ ?_)
end Go.Proofs.YtjmabkpcahmnpaaGreatDoor
namespace Go.Proofs.YtjmabkpcahmnpaaGreatDoor
open Go.RowKit
theorem eqS (s:ByteArray):(!(s.toList==s.toList))=false:=by simp
theorem x_rsameS (l:List Bs) (hl:l.length≤1000000):DCalls Tryz.prog 37 [strsV l,strsV l] (boo true):=by
 refine sx Tryz.func37 (by kernel_rfl) ?_
 conv=>whnf
 refine known false (by simp) ?_
 conv=>whnf
 refine⟨[],Nat,fun k=>[(5,int k)],fun _=>[],fun k=>k≤l.length,fun k=>l.length - k,0,Nat.zero_le _,?_,?_⟩
 ·refine⟨rfl,?_,?_⟩<;>repeat' (first|exact trivial|exact rfl|refine and_rfl ?_|refine and_two ?_ ?_)
 rintro k hk
 conv=>whnf
 rintro(_|_) h2
 ·(conv=>whnf)<;>rfl
 have h2:k<l.length:=by simp at h2;omega
 conv=>whnf
 refine⟨none,by kernel_rfl,?_⟩
 conv=>whnf
 refine⟨by omega,_,get_map strD h2,?_⟩
 conv=>whnf
 refine⟨by omega,_,get_map strD h2,?_⟩
 conv=>whnf
 refine known false (eqS _) ?_
 conv=>whnf
 refine⟨k+1,h2,by dsimp only;omega,?_⟩
 refine⟨rfl,?_,?_⟩<;>repeat' (first|exact trivial|exact rfl|refine and_rfl ?_|refine and_val (wrap_succ (by omega)) ?_|refine and_two ?_ ?_)
theorem x_rdiff (m:Mf) (hm:m.ops.length≤1000000):DCalls Tryz.prog 26 [m.V,m.V] (strsV []):=by
 refine sx Tryz.func26 (by kernel_rfl) ?_
 conv=>whnf
 refine known false (eqS _) ?_
 conv=>whnf
 refine known false (by simp) ?_
 conv=>whnf
 refine known false (by simp) ?_
 conv=>whnf
 refine⟨_,x_rsameS m.ops hm,?_⟩
 conv=>whnf
 refine known false rfl ?_
 conv=>whnf
 refine known false (eqS _) ?_
 (conv=>whnf)<;>rfl
theorem x_rsame (m:Mf) (hm:m.ops.length≤1000000):DCalls Tryz.prog 14 [m.V,m.V] (boo true):=by
 refine sx Tryz.func14 (by kernel_rfl) ?_
 conv=>whnf
 refine⟨_,x_rdiff m hm,?_⟩
 (conv=>whnf)<;>rfl
theorem x_sample (n s:Bs):DCalls Tryz.prog 16 [bstr n,bstr s] (⟨n,100,100,[],s⟩:Mf).V:=by
 refine sx Tryz.func16 (by kernel_rfl) ?_
 (conv=>whnf)<;>rfl
abbrev sF:Bs:=[102]
abbrev sourA:Bs:=[102,117,110,99,32,109,97,105,110,40,101,41,32,123,32,114,101,116,117,114,110,32,101,59,32,125]
abbrev sourB:Bs:=[102,117,110,99,32,109,97,105,110,40,101,41,32,123,32,114,101,116,117,114,110,32,49,59,32,125]
abbrev mA:Mf:=⟨sF,100,100,[],sourA⟩
abbrev mB:Mf:=⟨sF,100,100,[],sourB⟩
section
variable {E:Mf→Int} {Dg:Mf→Bs×Int}
def vA (Dg:Mf→Bs×Int):Vr:=⟨mA,1,(Dg mA).1,5,false⟩
def vB (Dg:Mf→Bs×Int):Vr:=⟨mB,2,(Dg mB).1,7,false⟩
theorem aw_p1 (hA:E mA=0) (dA:(Dg mA).2=0):pubP [] 0 mA 5 (E mA) (Dg mA)=((1,0),[(sF,[vA Dg])],5):=by
 simp[pubP,hA,dA,getB,pubL,putB,vA]
theorem aw_p2 (hA:E mA=0):pubP [(sF,[vA Dg])] 5 mA 7 (E mA) (Dg mA)=((1,0),[(sF,[vA Dg])],7):=by
 simp[pubP,hA,getB,pubL,vA,difF_self]
theorem aw_p3 (hB:E mB=0):pubP [(sF,[vA Dg])] 7 mB 6 (E mB) (Dg mB)=((0,11),[(sF,[vA Dg])],7):=by
 simp[pubP,hB]
theorem aw_ne:¬((difF mA mB).length=0):=by
 intro h
 have:=difF_nil (List.length_eq_zero_iff.1 h)
 have:sourA=sourB:=congrArg Mf.src this
 exact absurd this (by decide)
theorem aw_p4 (hB:E mB=0) (dB:(Dg mB).2=0):pubP [(sF,[vA Dg])] 7 mB 7 (E mB) (Dg mB)=((2,0),[(sF,[vA Dg,vB Dg])],7):=by
 have h:pubL [vA Dg] mB=false:=by
  have:=aw_ne
  simp only[pubL,List.getLast?_singleton,vA]
  simp only[Bool.not_false,Bool.true_and,beq_eq_false_iff_ne,ne_eq]
  omega
 unfold pubP
 rw[hB]
 simp only[getB,if_true,Option.getD_some,h]
 simp[dB,putB,vB]
theorem aw_r:retR [(sF,[vA Dg,vB Dg])] sF 2=(0,[(sF,[vA Dg,retV (vB Dg)])]):=by
 simp[retR,getB,putB,vB]
theorem aw_l:latR [vA Dg,retV (vB Dg)]=(1,0):=rfl
theorem aw_g:getP [(sF,[vA Dg,retV (vB Dg)])] sF 2=(noMf,18):=by
 simp[getP,getB,retV]
abbrev awM:List (Nat×Bool):=[(15,false),(10,false),(12,false),(11,false),(17,false),(13,false)]
theorem x_awake (hP:PubOk E Dg) (hA:E mA=0) (hB:E mB=0) (dA:(Dg mA).2=0) (dB:(Dg mB).2=0):DCalls Tryz.prog 7 [] (boo true):=by
 have sA:smM mA=true:=rfl
 have sB:smM mB=true:=rfl
 have rA:MfRg mA:=⟨by decide,by decide⟩
 have rB:MfRg mB:=⟨by decide,by decide⟩
 have c1:=hP [] 0 mA 5 sA rA (good_nil Dg)
 have g1:=(good_nil Dg).pub (E:=E) (m:=mA) (now:=0) (nw:=5) (by decide)
 rw[aw_p1 hA dA] at c1 g1
 have c2:=hP _ 5 mA 7 sA rA g1
 rw[aw_p2 hA] at c2
 have c3:=hP _ 7 mB 6 sB rB g1
 rw[aw_p3 hB] at c3
 have c4:=hP _ 7 mB 7 sB rB g1
 have g4:=g1.pub (E:=E) (m:=mB) (now:=7) (nw:=7) (by decide)
 rw[aw_p4 hB dB] at c4 g4
 dsimp only at c1 c2 c3 c4 g4
 have c5:=x_releases [(sF,[vA Dg,vB Dg])] 7 sF (by simp[getB])
 have c6:=x_retire [(sF,[vA Dg,vB Dg])] 7 sF 2 (by simp[getB])
 rw[aw_r] at c6
 have c7:=x_latest [(sF,[vA Dg,retV (vB Dg)])] 7 sF _ rfl (by simp)
 rw[aw_l] at c7
 have c8:=x_get [(sF,[vA Dg,retV (vB Dg)])] 7 sF 2 (by simp[getB]) (by simp[getB,vA,vB,retV])
 rw[aw_g] at c8
 refine sxm awM Tryz.func7 (by kernel_rfl) ?_
 conv=>whnf
 refine mcallV (gf:=true) (T:=TM awM) (φ:=[90,91]) (ρ:=[]) x_rgnew ?_
 conv=>whnf
 refine known false rfl ?_
 conv=>whnf
 refine⟨_,x_sample sF sourA,?_⟩
 conv=>whnf
 refine⟨_,x_sample sF sourB,?_⟩
 conv=>whnf
 refine mcallV (T:=TM awM) (φ:=[]) (ρ:=[90,91]) (ln:=true) (gf:=false) c1 ?_
 conv=>whnf
 refine mcallV (T:=TM awM) (φ:=[]) (ρ:=[90,91]) (ln:=true) (gf:=false) c2 ?_
 conv=>whnf
 refine mcallV (T:=TM awM) (φ:=[]) (ρ:=[90,91]) (ln:=true) (gf:=false) c3 ?_
 conv=>whnf
 refine mcallV (T:=TM awM) (φ:=[]) (ρ:=[90,91]) (ln:=true) (gf:=false) c4 ?_
 conv=>whnf
 refine mcallV (T:=TM awM) (φ:=[]) (ρ:=[90,91]) (ln:=true) (gf:=false) c5 ?_
 repeat((conv=>whnf);first|refine known false rfl ?_|refine known true rfl ?_|refine⟨by decide,_,rfl,?_⟩)
 conv=>whnf
 refine mcallV (T:=TM awM) (φ:=[]) (ρ:=[90,91]) (ln:=true) (gf:=false) c6 ?_
 conv=>whnf
 refine mcallV (T:=TM awM) (φ:=[]) (ρ:=[90,91]) (ln:=true) (gf:=false) c7 ?_
 conv=>whnf
 refine mcallV (T:=TM awM) (φ:=[]) (ρ:=[90,91]) (ln:=true) (gf:=false) c8 ?_
 repeat((conv=>whnf);first|refine known false rfl ?_|refine known true rfl ?_)
 (conv=>whnf)<;>rfl
end
end Go.Proofs.YtjmabkpcahmnpaaGreatDoor
namespace Go.Proofs.YtjmabkpcahmnpaaGreatDoor
open Go.RowKit
abbrev nilP:V:= .cv (.pointer none)
abbrev zrM:List Bk:=[.box [.cv (.map none),int 0]]
abbrev noCd:V:= .ag [.sl true 5 [],.sl true 4 []]
theorem z_made:MCalls Tryz.prog 20 [.bx 0 0] zrM (boo false) zrM:=by
 refine msxm [] Tryz.func20 (by kernel_rfl) (by kernel_rfl) ?_
 conv=>whnf
 refine known true rfl ?_
 conv=>whnf
 exact⟨rfl,rfl,rfl⟩
theorem n_publish (m:Mf) (now:Int):DCalls Tryz.prog 10 [nilP,m.V,int now] (.tu [int 0,int 10]):=by
 refine sx Tryz.func10 (by kernel_rfl) ?_
 conv=>whnf
 refine⟨_,x_rgnil,?_⟩
 conv=>whnf
 refine known true rfl ?_
 (conv=>whnf)<;>rfl
theorem z_publish (m:Mf) (now:Int):MCalls Tryz.prog 10 [.bx 0 0,mfL m,int now] zrM (.tu [int 0,int 10]) zrM:=by
 refine msxm [(20,false)] Tryz.func10 (by kernel_rfl) (by kernel_rfl) ?_
 conv=>whnf
 refine mcall (T:=TT) (φ:=[]) z_made ?_
 conv=>whnf
 refine known true rfl ?_
 conv=>whnf
 exact⟨rfl,rfl,rfl⟩
theorem n_find (t:Bs) (n:Int):DCalls Tryz.prog 25 [nilP,bstr t,int n] (.tu [nilP,int 10]):=by
 refine sx Tryz.func25 (by kernel_rfl) ?_
 conv=>whnf
 refine⟨_,x_rgnil,?_⟩
 conv=>whnf
 refine known true rfl ?_
 (conv=>whnf)<;>rfl
theorem z_find (t:Bs) (n:Int):MCalls Tryz.prog 25 [.bx 0 0,bstr t,int n] zrM (.tu [nilP,int 10]) zrM:=by
 refine msxm [(20,false)] Tryz.func25 (by kernel_rfl) (by kernel_rfl) ?_
 conv=>whnf
 refine mcall (T:=TT) (φ:=[]) z_made ?_
 conv=>whnf
 refine known true rfl ?_
 conv=>whnf
 exact⟨rfl,rfl,rfl⟩
theorem n_get (t:Bs) (n:Int):DCalls Tryz.prog 13 [nilP,bstr t,int n] (.tu [noMf.V,int 10]):=by
 refine sx Tryz.func13 (by kernel_rfl) ?_
 conv=>whnf
 refine⟨_,n_find t n,?_⟩
 conv=>whnf
 refine known true rfl ?_
 (conv=>whnf)<;>rfl
theorem z_get (t:Bs) (n:Int):MCalls Tryz.prog 13 [.bx 0 0,bstr t,int n] zrM (.tu [noMf.V,int 10]) zrM:=by
 refine msxm [(25,false)] Tryz.func13 (by kernel_rfl) (by kernel_rfl) ?_
 conv=>whnf
 refine mcall (T:=TT) (φ:=[]) (z_find t n) ?_
 conv=>whnf
 refine known true rfl ?_
 conv=>whnf
 exact⟨rfl,rfl,rfl⟩
theorem n_code (t:Bs) (n:Int):DCalls Tryz.prog 18 [nilP,bstr t,int n] (.tu [noCd,int 10]):=by
 refine sx Tryz.func18 (by kernel_rfl) ?_
 conv=>whnf
 refine⟨_,n_get t n,?_⟩
 conv=>whnf
 refine known true rfl ?_
 (conv=>whnf)<;>rfl
theorem z_code (t:Bs) (n:Int):MCalls Tryz.prog 18 [.bx 0 0,bstr t,int n] zrM (.tu [noCd,int 10]) zrM:=by
 refine msxm [(13,false)] Tryz.func18 (by kernel_rfl) (by kernel_rfl) ?_
 conv=>whnf
 refine mcall (T:=TT) (φ:=[]) (z_get t n) ?_
 conv=>whnf
 refine known true rfl ?_
 conv=>whnf
 exact⟨rfl,rfl,rfl⟩
theorem n_latest (t:Bs):DCalls Tryz.prog 17 [nilP,bstr t] (.tu [int 0,int 10]):=by
 refine sx Tryz.func17 (by kernel_rfl) ?_
 conv=>whnf
 refine⟨_,x_rgnil,?_⟩
 conv=>whnf
 refine known true rfl ?_
 (conv=>whnf)<;>rfl
theorem z_latest (t:Bs):MCalls Tryz.prog 17 [.bx 0 0,bstr t] zrM (.tu [int 0,int 10]) zrM:=by
 refine msxm [(20,false)] Tryz.func17 (by kernel_rfl) (by kernel_rfl) ?_
 conv=>whnf
 refine mcall (T:=TT) (φ:=[]) z_made ?_
 conv=>whnf
 refine known true rfl ?_
 conv=>whnf
 exact⟨rfl,rfl,rfl⟩
theorem n_retire (t:Bs) (n:Int):DCalls Tryz.prog 12 [nilP,bstr t,int n] (int 10):=by
 refine sx Tryz.func12 (by kernel_rfl) ?_
 conv=>whnf
 refine⟨_,n_find t n,?_⟩
 conv=>whnf
 refine known true rfl ?_
 (conv=>whnf)<;>rfl
theorem z_retire (t:Bs) (n:Int):MCalls Tryz.prog 12 [.bx 0 0,bstr t,int n] zrM (int 10) zrM:=by
 refine msxm [(25,false)] Tryz.func12 (by kernel_rfl) (by kernel_rfl) ?_
 conv=>whnf
 refine mcall (T:=TT) (φ:=[]) (z_find t n) ?_
 conv=>whnf
 refine known true rfl ?_
 conv=>whnf
 exact⟨rfl,rfl,rfl⟩
theorem n_releases (t:Bs):DCalls Tryz.prog 11 [nilP,bstr t] (.sl true 4 []):=by
 refine sx Tryz.func11 (by kernel_rfl) ?_
 conv=>whnf
 refine⟨_,x_rgnil,?_⟩
 conv=>whnf
 refine known true rfl ?_
 (conv=>whnf)<;>rfl
theorem z_releases (t:Bs):MCalls Tryz.prog 11 [.bx 0 0,bstr t] zrM (.sl true 4 []) zrM:=by
 refine msxm [(20,false)] Tryz.func11 (by kernel_rfl) (by kernel_rfl) ?_
 conv=>whnf
 refine mcall (T:=TT) (φ:=[]) z_made ?_
 conv=>whnf
 refine known true rfl ?_
 conv=>whnf
 exact⟨rfl,rfl,rfl⟩
theorem n_names:DCalls Tryz.prog 19 [nilP] (.sl true 1 []):=by
 refine sx Tryz.func19 (by kernel_rfl) ?_
 conv=>whnf
 refine⟨_,x_rgnil,?_⟩
 conv=>whnf
 refine known true rfl ?_
 (conv=>whnf)<;>rfl
theorem z_names:MCalls Tryz.prog 19 [.bx 0 0] zrM (.sl true 1 []) zrM:=by
 refine msxm [(20,false)] Tryz.func19 (by kernel_rfl) (by kernel_rfl) ?_
 conv=>whnf
 refine mcall (T:=TT) (φ:=[]) z_made ?_
 conv=>whnf
 refine known true rfl ?_
 conv=>whnf
 exact⟨rfl,rfl,rfl⟩
theorem n_none (m:Mf) (t:Bs) (n now:Int):MCalls Tryz.prog 8 [nilP,mfL m,bstr t,int n,int now] [] (boo true) []:=by
 refine msxm [] Tryz.func8 (by kernel_rfl) (by kernel_rfl) ?_
 conv=>whnf
 refine⟨_,n_publish m now,?_⟩
 conv=>whnf
 refine⟨_,n_get t n,?_⟩
 conv=>whnf
 refine⟨_,n_code t n,?_⟩
 conv=>whnf
 refine⟨_,n_latest t,?_⟩
 repeat((conv=>whnf);refine known true rfl ?_)
 conv=>whnf
 refine⟨_,n_retire t n,?_⟩
 repeat((conv=>whnf);refine known true rfl ?_)
 conv=>whnf
 refine⟨_,n_releases t,?_⟩
 repeat((conv=>whnf);refine known true rfl ?_)
 conv=>whnf
 refine⟨_,n_names,?_⟩
 conv=>whnf
 exact⟨rfl,rfl,rfl⟩
def nnM:List (Nat×Bool):=[(10,false),(13,false),(18,false),(17,false),(12,false),(11,false),(19,false)]
theorem z_none (m:Mf) (t:Bs) (n now:Int):MCalls Tryz.prog 8 [.bx 0 0,mfL m,bstr t,int n,int now] zrM (boo true) zrM:=by
 refine msxm nnM Tryz.func8 (by kernel_rfl) (by kernel_rfl) ?_
 conv=>whnf
 refine mcallV (T:=TM nnM) (φ:=[]) (ρ:=[80]) (z_publish m now) ?_ (ln:=true)
 repeat((conv=>whnf);refine known true rfl ?_)
 conv=>whnf
 refine mcallV (T:=TM nnM) (φ:=[]) (ρ:=[80]) (z_get t n) ?_ (ln:=true)
 repeat((conv=>whnf);refine known true rfl ?_)
 conv=>whnf
 refine mcallV (T:=TM nnM) (φ:=[]) (ρ:=[80]) (z_code t n) ?_ (ln:=true)
 repeat((conv=>whnf);refine known true rfl ?_)
 conv=>whnf
 refine mcallV (T:=TM nnM) (φ:=[]) (ρ:=[80]) (z_latest t) ?_ (ln:=true)
 repeat((conv=>whnf);refine known true rfl ?_)
 conv=>whnf
 refine mcallV (T:=TM nnM) (φ:=[]) (ρ:=[80]) (z_retire t n) ?_ (ln:=true)
 repeat((conv=>whnf);refine known true rfl ?_)
 conv=>whnf
 refine mcallV (T:=TM nnM) (φ:=[]) (ρ:=[80]) (z_releases t) ?_ (ln:=true)
 repeat((conv=>whnf);refine known true rfl ?_)
 conv=>whnf
 refine mcallV (T:=TM nnM) (φ:=[]) (ρ:=[80]) (z_names) ?_ (ln:=true)
 conv=>whnf
 exact⟨rfl,rfl,rfl⟩
end Go.Proofs.YtjmabkpcahmnpaaGreatDoor
namespace Go.Proofs.YtjmabkpcahmnpaaGreatDoor
open Go.RowKit
section
variable {E:Mf→Int} {Dg:Mf→Bs×Int}
theorem smL_one (o:Rop):smL [o]=smO o:=by simp[smL]
def nlM:List (Nat×Bool):=[(8,false)]
theorem x_lnil (hAw:DCalls Tryz.prog 7 [] (boo true)) (m:Mf) (t:Bs) (n now:Int) (hm:m.ops.length≤8796093022207):DCalls Tryz.prog 3 [m.V,bstr t,int n,int now] (boo true):=by
 refine sxm nlM Tryz.func3 (by kernel_rfl) ?_
 conv=>whnf
 refine⟨_,x_small [⟨0,0,0,t,m⟩] (by simp) (by simpa using hm),?_⟩
 cases h:smL [⟨0,0,0,t,m⟩] with
 |false=>
  conv=>whnf
  refine known true rfl ?_
  conv=>whnf
  refine⟨_,hAw,?_⟩
  (conv=>whnf)<;>rfl
 |true=>
  conv=>whnf
  refine known false rfl ?_
  conv=>whnf
  refine mcallV (T:=TM nlM) (φ:=[]) (ρ:=[]) (ln:=true) (n_none m t n now) ?_
  repeat((conv=>whnf);refine known true rfl ?_)
  conv=>whnf
  refine mcallV (T:=TM nlM) (φ:=[]) (ρ:=[23]) (ln:=true) (z_none m t n now) ?_
  repeat((conv=>whnf);refine known true rfl ?_)
  conv=>whnf
  refine⟨_,hAw,?_⟩
  (conv=>whnf)<;>rfl
def rpM:List (Nat×Bool):=[(9,false),(10,false),(12,false),(11,false)]
theorem x_lrepeats (hP:PubOk E Dg) (hAw:DCalls Tryz.prog 7 [] (boo true)) (l:List Rop) (m:Mf) (nw:Int) (hl:l.length≤8796093022207) (ho:∀o∈l,o.m.ops.length≤8796093022207) (hm:m.ops.length≤8796093022207)
  (hr:∀o∈l,MfRg o.m) (hrm:MfRg m):DCalls Tryz.prog 5 [ropsV l,m.V,int nw] (boo true):=by
 refine sxm rpM Tryz.func5 (by kernel_rfl) ?_
 conv=>whnf
 refine⟨_,x_small l hl ho,?_⟩
 cases h1:smL l with
 |false=>
  repeat((conv=>whnf);refine known true rfl ?_)
  conv=>whnf
  refine⟨_,hAw,?_⟩
  (conv=>whnf)<;>rfl
 |true=>
 conv=>whnf
 refine known false rfl ?_
 conv=>whnf
 refine⟨_,x_small [⟨0,0,0,[],m⟩] (by simp) (by simpa using hm),?_⟩
 cases h2:smL [⟨0,0,0,[],m⟩] with
 |false=>
  repeat((conv=>whnf);refine known true rfl ?_)
  conv=>whnf
  refine⟨_,hAw,?_⟩
  (conv=>whnf)<;>rfl
 |true=>
 have hsm:smM m=true:=by
  rw[smL_one] at h2
  simp only[smO,Bool.and_eq_true] at h2
  exact h2.2
 have hG:GoodR Dg (playR E Dg ([],0) l).1:=GoodR.play l (s:=([],0)) (good_nil Dg) fun o hx=>by have:=smM_ops ((smL_of h1).2 o hx);omega
 have c0:=x_played hP l h1 hr
 generalize playR E Dg ([],0) l=s at hG c0
 obtain⟨F,now⟩:=s
 dsimp only at hG c0
 have c1:=hP F now m nw hsm hrm hG
 conv=>whnf
 refine known false rfl ?_
 conv=>whnf
 refine mcallV (T:=TM rpM) (φ:=[95,96]) (ρ:=[]) (ln:=true) c0 ?_
 conv=>whnf
 refine known false rfl ?_
 by_cases h0:(pubP F now m nw (E m) (Dg m)).1.2=0
 rotate_left
 ·obtain⟨e1,e2⟩:=pub_err rfl h0
  rw[e1,show(pubP F now m nw (E m) (Dg m)).2.1=F by rw[e2],show(pubP F now m nw (E m) (Dg m)).2.2=now by rw[e2]] at c1
  generalize (pubP F now m nw (E m) (Dg m)).1.2=e at h0 c1
  conv=>whnf
  refine mcallV (T:=TM rpM) (φ:=[]) (ρ:=[95,96]) (ln:=true) (gf:=false) c1 ?_
  conv=>whnf
  refine mcallV (T:=TM rpM) (φ:=[]) (ρ:=[95,96]) (ln:=true) (gf:=false) c1 ?_
  conv=>whnf
  refine known false (by simp) ?_
  conv=>whnf
  refine known false (by simp) ?_
  conv=>whnf
  refine known true (by simpa using h0) ?_
  conv=>whnf
  refine⟨_,hAw,?_⟩
  (conv=>whnf)<;>rfl
 obtain⟨hE,hn,en,hD,hG2,k,v,hg,e1,hv,hrt⟩:=pub_ok hG (by have:=smM_ops hsm;omega) rfl h0
 have hrow:=hG2.rl m.nm
 rw[hg] at hrow
 simp only[Option.getD_some,List.length_append,List.length_singleton] at hrow
 rw[h0,e1,en] at c1
 generalize (pubP F now m nw (E m) (Dg m)).2.1=G at hG2 hg c1
 have c2:=hP G nw m nw hsm hrm hG2
 rw[pub_again hg hE hn hv hrt] at c2
 have c3:=x_releases G nw m.nm (by rw[hg];simp;omega)
 rw[hg] at c3
 have c4:=x_retire G nw m.nm ((k.length+1:Nat):Int) (by rw[hg];simp;omega)
 rw[ret_last hg hrt] at c4
 have c5:=x_retire (putB G m.nm (k++[retV v])) nw m.nm ((k.length+1:Nat):Int) (by rw[getB_put];simp;omega)
 rw[ret_twice] at c5
 have hG3:GoodR Dg (putB G m.nm (k++[retV v])):=by
  have:=hG2.ret m.nm ((k.length+1:Nat):Int)
  rwa [ret_last hg hrt] at this
 have c6:=hP _ nw m nw hsm hrm hG3
 have e6:=pub_next (E:=E) (Dg:=Dg) (G:=G) (v:=v) (l:=k) hrow hE hn hD
 dsimp only[Option.getD_some] at c1 c2 c3 c4 c5
 conv=>whnf
 refine mcallV (T:=TM rpM) (φ:=[]) (ρ:=[95,96]) (ln:=true) (gf:=false) c1 ?_
 conv=>whnf
 refine mcallV (T:=TM rpM) (φ:=[]) (ρ:=[95,96]) (ln:=true) (gf:=false) c2 ?_
 conv=>whnf
 refine known false rfl ?_
 conv=>whnf
 refine known false (by simp) ?_
 conv=>whnf
 refine known false rfl ?_
 conv=>whnf
 refine mcallV (T:=TM rpM) (φ:=[]) (ρ:=[95,96]) (ln:=true) (gf:=false) c3 ?_
 conv=>whnf
 refine known false (by simp) ?_
 conv=>whnf
 refine mcallV (T:=TM rpM) (φ:=[]) (ρ:=[95,96]) (ln:=true) (gf:=false) c4 ?_
 conv=>whnf
 refine known false rfl ?_
 conv=>whnf
 refine mcallV (T:=TM rpM) (φ:=[]) (ρ:=[95,96]) (ln:=true) (gf:=false) c5 ?_
 conv=>whnf
 refine known false rfl ?_
 rw[e6] at c6
 generalize (pubP (putB G m.nm (k++[retV v])) nw m nw (E m) (Dg m)).2=q at c6
 by_cases h32:k.length+1=32
 ·rw[if_pos h32] at c6
  conv=>whnf
  refine mcallV (T:=TM rpM) (φ:=[]) (ρ:=[95,96]) (ln:=true) (gf:=false) c6 ?_
  conv=>whnf
  refine known true (by simp;omega) ?_
  conv=>whnf
  refine known true rfl ?_
  conv=>whnf
  refine⟨_,hAw,?_⟩
  (conv=>whnf)<;>rfl
 ·rw[if_neg h32] at c6
  conv=>whnf
  refine mcallV (T:=TM rpM) (φ:=[]) (ρ:=[95,96]) (ln:=true) (gf:=false) c6 ?_
  conv=>whnf
  refine known false (by simp;omega) ?_
  conv=>whnf
  refine known true (by rw[wrap_in (by omega)];simp) ?_
  conv=>whnf
  refine known true rfl ?_
  conv=>whnf
  refine⟨_,hAw,?_⟩
  (conv=>whnf)<;>rfl
end
end Go.Proofs.YtjmabkpcahmnpaaGreatDoor
