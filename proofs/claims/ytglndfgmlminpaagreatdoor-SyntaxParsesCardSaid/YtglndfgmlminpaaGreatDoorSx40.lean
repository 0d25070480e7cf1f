/- Texts joined by pack.py: XSyWM XSyWN XSyWO XSyYE XSyYF XSyYG XSyN3 -/
import Derived.Test.YtglndfgmlminpaaGreatDoorSx38
import Derived.Test.YtglndfgmlminpaaGreatDoorSx39
import Derived.Test.YtglndfgmlminpaaGreatDoorSx23
import Derived.Test.YtglndfgmlminpaaGreatDoorSx30
import Derived.Test.YtglndfgmlminpaaGreatDoorSx36
import Derived.Test.YtglndfgmlminpaaGreatDoorSx37
set_option maxHeartbeats 200000000
set_option maxRecDepth 100000
namespace Go.Proofs.YtglndfgmlminpaaGreatDoor
open Go.RowKit
theorem x_rparts (l:List Nd) (hn:NsOk l) (n:Nd) (ho:NdOk n) (hkid:∀k∈n.kids,∃j:Nat,k=((j:Nat):Int)∧j<l.length):DCalls Tryz.prog 72 [.sl true 5 (l.map ndD),n.V] (boo (partsB l n)):=by
 obtain⟨k,s,v,ks,js⟩:=n
 have hjs:=ho.kids
 have hln:=hn.len
 dsimp only at hjs hkid
 rcases kinds k with h|h|h|h|h|h|h|h|h|h|h|h|h|h|h|h|h|h|h|h
 rotate_right
 ·have e:partsB l ⟨k,s,v,ks,js⟩=(countB k js.length&&fitsL l k 0 js):=rfl
  rw[e,show countB k js.length=false by unfold countB;rw[if_neg (by omega),if_neg (by omega),if_neg (by omega),if_neg (by omega)];simp;omega]
  refine sx Tryz.func72 (by kernel_rfl) ?_
  conv=>whnf
  rintro(_|_) h1
  ·dsimp only at h1
   conv=>whnf
   refine known true (by simp at h1⊢;omega) ?_
   (conv=>whnf)<;>rfl
  ·(conv=>whnf)<;>rfl
 all_goals subst h
 ·exact x_rparts1 l s v ks js hln hjs hkid
 ·exact x_rparts2 l s v ks js hln hjs hkid
 ·exact x_rparts3 l s v ks js hln hjs hkid
 ·exact x_rparts4 l s v ks js hln hjs hkid
 ·exact x_rparts5 l s v ks js hln hjs hkid
 ·exact x_rparts6 l s v ks js hln hjs hkid
 ·exact x_rparts7 l s v ks js hln hjs hkid
 ·exact x_rparts8 l s v ks js hln hjs hkid
 ·exact x_rparts9 l s v ks js hln hjs hkid
 ·exact x_rparts10 l s v ks js hln hjs hkid
 ·exact x_rparts11 l s v ks js hln hjs hkid
 ·exact x_rparts12 l s v ks js hln hjs hkid
 ·exact x_rparts13 l s v ks js hln hjs hkid
 ·exact x_rparts14 l s v ks js hln hjs hkid
 ·exact x_rparts15 l s v ks js hln hjs hkid
 ·exact x_rparts16 l s v ks js hln hjs hkid
 ·exact x_rparts17 l s v ks js hln hjs hkid
 ·exact x_rparts18 l s v ks js hln hjs hkid
 ·exact x_rparts19 l s v ks js hln hjs hkid
end Go.Proofs.YtglndfgmlminpaaGreatDoor
namespace Go.Proofs.YtglndfgmlminpaaGreatDoor
open Go.RowKit
abbrev nI (l:List Nat):List Int:=l.map (fun n:Nat=>(n:Int))
abbrev rowN (l:List Nat):Bk:= .row 0 3 1 true ((nI l).map intD)
def resM (R:Option (List Nat×List Nat)) (n:Nat):List Nat×List Nat×Bool:=match R with
 |none=>([],[],false)
 |some (sz,ht)=>(sz,ht,decide (sz.length=n))
def measV (p:Pg):List Nat×List Nat×Bool:=resM (funcsM p.nodes p.funcs [] []) p.nodes.length
abbrev rmV (x:List Nat×List Nat×Bool):V:= .tu [intsV (nI x.1),intsV (nI x.2.1),boo x.2.2]
theorem beqN (a b:Nat):((a:Int)==(b:Int))=decide (a=b):=by
 by_cases h:a=b
 ·subst h;simp
 ·have:(a:Int)≠b:=by omega
  simp[h,this]
theorem nI_snoc (l:List Nat) (x:Nat):(nI (l++[x])).map intD=(nI l).map intD++[intD (x:Int)]:=by simp[nI]
theorem nI_snocv {l:List Nat} {x:Nat} {v:Int} (h:v=(x:Int)):(nI l).map intD++[intD v]=(nI (l++[x])).map intD:=by rw[h,nI_snoc]
theorem nI_len (l:List Nat):((nI l).map intD).length=l.length:=by simp[nI]
theorem nI_get {l:List Nat} {j:Nat} (h:j<l.length):((nI l).map intD)[j]?=some (intD ((l.getD j 0:Nat):Int)):=by
 simp[nI,List.getD_eq_getElem?_getD,List.getElem?_eq_getElem h]
theorem foldl_max_le {F:Int→Nat} {B:Nat} (hF:∀k,F k≤B):∀(xs:List Int) (m:Nat),m≤B→xs.foldl (fun m k=>max m (F k)) m≤B
 |[],m,h=>h
 |x::xs,m,h=>foldl_max_le hF xs (max m (F x)) (by have:=hF x;omega)
theorem nestF_le (l:List Nd):∀(f i:Nat),nestF l f i≤f
 |0,i=>Nat.le_refl _
 |f+1,i=>by
  simp only[nestF]
  split
  ·omega
  ·have:=foldl_max_le (F:=fun k=>nestF l f k.toNat) (B:=f) (fun k=>nestF_le l f k.toNat) ‹Nd›.kids 0 (by omega)
   omega
theorem kidM_kids {low:Nat} {sz ht:List Nat}:∀(xs:List Int) (c top:Nat) {r:Nat×Nat},kidM low sz ht xs c top=some r→r.1≤c∧∀k∈xs,∃j:Nat,k=(j:Int)∧j<c
 |[],c,top,r,h=>by simp only[kidM,Option.some.injEq] at h;subst h;exact⟨Nat.le_refl _,fun k h=>by cases h⟩
 |x::xs,c,top,r,h=>by
  simp only[kidM] at h
  split at h
  rotate_left
  ·cases h
  rename_i hx
  obtain⟨h1,h2⟩:=kidM_kids xs _ _ h
  refine⟨by omega,fun k hk=>?_⟩
  rcases List.mem_cons.1 hk with rfl|hk
  ·exact⟨c - 1,by omega,by omega⟩
  ·obtain⟨j,e,hj⟩:=h2 k hk
   exact⟨j,e,by omega⟩
theorem x_rmeasure (p:Pg) (hp:PgOk p):DCalls Tryz.prog 35 [p.V] (rmV (measV p)):=by
 obtain⟨ns,fs⟩:=p
 obtain⟨hns,hf1,hf2⟩:=hp
 have hn1:=hns.len
 have hn2:=hns.nd
 dsimp only at hns hf1 hf2 hn1 hn2
 have hln:(ns.map ndD).length=ns.length:=List.length_map _
 have hlf:(fs.map fcD).length=fs.length:=List.length_map _
 obtain⟨R,hR⟩:∃R,R=funcsM ns fs [] []:=⟨_,rfl⟩
 rw[show measV ⟨ns,fs⟩=resM R ns.length by rw[hR];rfl]
 refine sx Tryz.func35 (by kernel_rfl) ?_
 conv=>whnf
 refine⟨[],Nat×List Nat×List Nat,fun⟨k,sz,ht⟩=>[(7,int sz.length),(8,int k),(5,.ow 16 0),(6,.ow 17 0),(16,.un),(17,.un)],fun⟨_,sz,ht⟩=>[(16,some (rowN sz)),(17,some (rowN ht))],fun⟨k,sz,ht⟩=>k≤fs.length∧ht.length=sz.length∧sz.length≤ns.length∧(∀x∈ht,x≤ns.length+1)∧funcsM ns (fs.drop k) sz ht=R,fun⟨k,_,_⟩=>fs.length - k,(0,[],[]),⟨Nat.zero_le _,rfl,Nat.zero_le _,by simp,hR.symm⟩,?_,?_⟩
 ·refine⟨rfl,?_,?_⟩<;>repeat' (first|exact trivial|exact rfl|refine and_rfl ?_|refine and_two ?_ ?_)
 rintro⟨k,sz,ht⟩ ⟨hk,hl1,hl2,hb,hM⟩
 conv=>whnf
 rintro(_|_) h1
 ·have h1:fs.length≤k:=by simp at h1;omega
  rw[List.drop_eq_nil_of_le h1] at hM
  rw[←hM]
  conv=>whnf
  refine⟨none,by kernel_rfl,?_⟩
  conv=>whnf
  rw[hln,beqN]
  rfl
 have h1:k<fs.length:=by simp at h1;omega
 have hwk:IntKind.i64.wrap (((k:Nat):Int)+1)=((k+1:Nat):Int):=wrap_succ (by omega)
 have hg:(fs.map fcD)[((k:Nat):Int).toNat]?=some (fcD fs[k]):=get_map fcD h1
 have hfo:=hf2 fs[k] (List.getElem_mem h1)
 rw[List.drop_eq_getElem_cons h1] at hM
 generalize fs[k]=f at hg hfo hM
 obtain⟨nm,ps,bd⟩:=f
 obtain⟨hp1,hp2,hp3⟩:=hfo
 simp only[funcsM] at hM
 dsimp only at hp1 hp2 hp3
 replace hg:(fs.map fcD)[((k:Nat):Int).toNat]?=some [.cv (.string (mk nm)),.sl 1 (ps.map strD),.cv (.int .i64 bd)]:=hg
 have hlp:(ps.map strD).length=ps.length:=List.length_map _
 conv=>whnf
 refine⟨Int.natCast_nonneg k,_,hg,?_⟩
 conv=>whnf
 rintro(_|_) h2
 rotate_left
 ·have h2:bd<(sz.length:Int):=by simpa using h2
  rw[if_pos (.inl h2)] at hM
  rw[←hM]
  repeat((conv=>whnf);first|refine known true rfl ?_|refine known false rfl ?_)
  (conv=>whnf)<;>rfl
 have h2:(sz.length:Int)≤bd:=by simpa using h2
 obtain⟨b,rfl⟩:∃b:Nat,bd=b:=⟨bd.toNat,by omega⟩
 conv=>whnf
 rintro(_|_) h3
 rotate_left
 ·have h3:ns.length≤b:=by rw[hln] at h3;simpa using h3
  rw[if_pos (.inr (.inl (by omega)))] at hM
  rw[←hM]
  repeat((conv=>whnf);first|refine known true rfl ?_|refine known false rfl ?_)
  (conv=>whnf)<;>rfl
 have h3:b<ns.length:=by rw[hln] at h3;simpa using h3
 have hgb:(ns.map ndD)[((b:Nat):Int).toNat]?=some (ndD ns[b]):=get_map ndD h3
 have hkb:kindAt ns ((b:Nat):Int)=ns[b].kind:=by unfold kindAt;rw[Int.toNat_natCast,List.getElem?_eq_getElem h3];rfl
 rw[hkb] at hM
 conv=>whnf
 refine⟨Int.natCast_nonneg b,_,hgb,?_⟩
 conv=>whnf
 rintro(_|_) h4
 rotate_left
 ·have h4:ns[b].kind≠19:=by simpa using h4
  rw[if_pos (.inr (.inr (.inl h4)))] at hM
  rw[←hM]
  repeat((conv=>whnf);first|refine known true rfl ?_|refine known false rfl ?_)
  (conv=>whnf)<;>rfl
 have h4:ns[b].kind=19:=by simpa using h4
 conv=>whnf
 refine⟨Int.natCast_nonneg k,_,hg,?_⟩
 conv=>whnf
 refine⟨_,x_rname08 nm hp1,?_⟩
 conv=>whnf
 rintro(_|_) h5
 rotate_left
 ·have h5:nameB nm=false:=by simpa using h5
  rw[if_pos (.inr (.inr (.inr (.inl h5))))] at hM
  rw[←hM]
  (conv=>whnf)<;>rfl
 have h5:nameB nm=true:=by simpa using h5
 conv=>whnf
 refine⟨[],Nat,fun j=>[(10,int j)],fun _=>[],fun j=>j≤ps.length∧(ps.drop j).all nameB=ps.all nameB,fun j=>ps.length - j,0,⟨Nat.zero_le _,rfl⟩,?_,?_⟩
 ·refine⟨rfl,?_,?_⟩<;>repeat' (first|exact trivial|exact rfl|refine and_rfl ?_|refine and_two ?_ ?_)
 rintro j ⟨hj,hal⟩
 conv=>whnf
 refine⟨Int.natCast_nonneg k,_,hg,?_⟩
 conv=>whnf
 rintro(_|_) h6
 rotate_left
 ·have h6:j<ps.length:=by simp at h6;omega
  have hwj:IntKind.i64.wrap (((j:Nat):Int)+1)=((j+1:Nat):Int):=wrap_succ (by omega)
  have hg2:(ps.map strD)[((j:Nat):Int).toNat]?=some (strD ps[j]):=get_map strD h6
  rw[List.drop_eq_getElem_cons h6,List.all_cons] at hal
  conv=>whnf
  refine⟨Int.natCast_nonneg k,_,hg,?_⟩
  conv=>whnf
  refine⟨Int.natCast_nonneg j,_,hg2,?_⟩
  conv=>whnf
  refine⟨_,x_rname08 ps[j] (hp3 _ (List.getElem_mem h6)),?_⟩
  conv=>whnf
  rintro(_|_) h7
  rotate_left
  ·have h7:nameB ps[j]=false:=by simpa using h7
   rw[h7,Bool.false_and] at hal
   rw[if_pos (.inr (.inr (.inr (.inr hal.symm))))] at hM
   rw[←hM]
   (conv=>whnf)<;>rfl
  have h7:nameB ps[j]=true:=by simpa using h7
  rw[h7,Bool.true_and] at hal
  conv=>whnf
  refine⟨j+1,⟨h6,hal⟩,by(try dsimp only);omega,?_⟩
  refine⟨rfl,?_,?_⟩<;>repeat' (first|exact trivial|exact rfl|(rw[nI_snoc];exact rfl)|refine and_rfl ?_|refine and_val hwj ?_|refine and_two ?_ ?_)
 have h6:ps.length≤j:=by simp at h6;omega
 rw[List.drop_eq_nil_of_le h6] at hal
 rw[if_neg (by rintro(h|h|h|h|h)<;>first|omega|(rw[h4] at h;exact h rfl)|(rw[h5] at h;cases h)|(rw[←hal] at h;cases h)),Int.toNat_natCast] at hM
 obtain⟨R2,hR2⟩:∃R2,runM ns sz.length (b+1 - sz.length) sz ht=R2:=⟨_,rfl⟩
 rw[hR2] at hM
 have hfailR:R2=none→R=none:=fun h=>by rw[h] at hM;exact hM.symm
 conv=>whnf
 refine⟨[],List Nat×List Nat,fun⟨a,t⟩=>[(11,int a.length),(5,.ow 16 0),(6,.ow 17 0),(16,.un),(17,.un)],fun⟨a,t⟩=>[(16,some (rowN a)),(17,some (rowN t))],fun⟨a,t⟩=>sz.length≤a.length∧a.length≤b+1∧t.length=a.length∧MInv ns sz.length a t∧(∀x∈t,x≤ns.length+1)∧runM ns sz.length (b+1 - a.length) a t=R2,fun⟨a,_⟩=>b+1 - a.length,(sz,ht),⟨Nat.le_refl _,by omega,hl1,MInv.start ns hl1,hb,hR2⟩,?_,?_⟩
 ·refine⟨rfl,?_,?_⟩<;>repeat' (first|exact trivial|exact rfl|refine and_rfl ?_|refine and_two ?_ ?_)
 rintro⟨a,t⟩ ⟨g1,g2,g3,hI,g5,g6⟩
 conv=>whnf
 rintro(_|_) h8
 rotate_left
 ·have h8:a.length≤b:=by simp at h8;omega
  have h9:a.length<ns.length:=by omega
  have hgn:(ns.map ndD)[((a.length:Nat):Int).toNat]?=some (ndD ns[a.length]):=get_map ndD h9
  have hno:=hn2 ns[a.length] (List.getElem_mem h9)
  have hsome:ns[a.length]?=some ns[a.length]:=List.getElem?_eq_getElem h9
  rw[show b+1 - a.length=(b - a.length)+1 by omega] at g6
  simp only[runM] at g6
  rw[hsome] at g6
  generalize ns[a.length]=n at hgn hno hsome g6
  obtain⟨kd,s,v,ks,js⟩:=n
  dsimp only at g6
  have hjs:=hno.kids
  dsimp only at hjs
  replace hgn:(ns.map ndD)[((a.length:Nat):Int).toNat]?=some [.cv (.int .i64 kd),.cv (.string (mk s)),.cv (.int .i64 v),.sl 1 (ks.map strD),.sl 1 (js.map intD)]:=hgn
  have hlj:(js.map intD).length=js.length:=List.length_map _
  have hw1:IntKind.i64.wrap (((a.length:Nat):Int) - 1)=((a.length:Nat):Int) - 1:=wrap_in (by omega)
  have hw2:IntKind.i64.wrap ((((js.map intD).length:Nat):Int) - 1)=((js.length:Nat):Int) - 1:=by rw[hlj];exact wrap_in (by omega)
  have hwi:IntKind.i64.wrap (((a.length:Nat):Int)+1)=((a.length+1:Nat):Int):=wrap_succ (by omega)
  obtain⟨R3,hR3⟩:∃R3,kidM sz.length a t js.reverse a.length 0=R3:=⟨_,rfl⟩
  have hfail3:nodeM ns sz.length a t a.length ⟨kd,s,v,ks,js⟩=none→R=none:=fun h=>by
   rw[h] at g6;exact hfailR g6.symm
  conv=>whnf
  refine⟨Int.natCast_nonneg _,_,hgn,?_⟩
  conv=>whnf
  refine⟨[],Nat×Nat×Nat,fun⟨m,c,top⟩=>[(13,int ((c:Int) - 1)),(14,int top),(15,int ((m:Int) - 1))],fun _=>[],fun⟨m,c,top⟩=>m≤js.length∧c≤a.length∧sz.length≤c∧top≤ns.length+1∧kidM sz.length a t (js.take m).reverse c top=R3,fun⟨m,_,_⟩=>m,(js.length,a.length,0),⟨Nat.le_refl _,Nat.le_refl _,g1,Nat.zero_le _,by rw[List.take_length];exact hR3⟩,?_,?_⟩
  ·refine⟨rfl,?_,?_⟩<;>repeat' (first|exact trivial|exact rfl|refine and_rfl ?_|refine and_val hw1 ?_|refine and_val hw2 ?_|refine and_two ?_ ?_)
  rintro⟨m,c,top⟩ ⟨m1,m2,m3,m4,m5⟩
  conv=>whnf
  rintro(_|_) e1
  rotate_left
  ·have e1:1≤m:=by simp at e1;omega
   have e2:m - 1<js.length:=by omega
   have hgx:(js.map intD)[((m:Int) - 1).toNat]?=some (intD js[m - 1]):=by
    rw[show((m:Int) - 1).toNat=m - 1 by omega];exact get_map intD e2
   have htr:(js.take m).reverse=js[m - 1]::(js.take (m - 1)).reverse:=by
    have:=take_rev (l:=js) (m:=m - 1) e2
    rwa [show m - 1+1=m by omega] at this
   rw[htr] at m5
   simp only[kidM] at m5
   conv=>whnf
   refine⟨by omega,_,hgx,?_⟩
   conv=>whnf
   rintro(_|_) e3
   rotate_left
   ·have e3:js[m - 1]≠(c:Int) - 1:=by simpa using e3
    rw[if_neg (fun h=>e3 h.1)] at m5
    have hz:=hfail3 (by unfold nodeM;rw[hR3,←m5])
    repeat((conv=>whnf);first|refine known true rfl ?_|refine known false rfl ?_)
    conv=>whnf
    rw[hz]
    first|done|rfl
   have e3:js[m - 1]=(c:Int) - 1:=by simpa using e3
   conv=>whnf
   rintro(_|_) e4
   rotate_left
   ·have e4:c≤sz.length:=by simp at e4;omega
    rw[if_neg (fun h=>by omega)] at m5
    have hz:=hfail3 (by unfold nodeM;rw[hR3,←m5])
    conv=>whnf
    rw[hz]
    first|done|rfl
   have e4:sz.length<c:=by simp at e4;omega
   rw[if_pos ⟨e3,e4⟩] at m5
   have q1:sz.length≤c - 1:=by omega
   have q2:c - 1<a.length:=by omega
   have q3:=hI.get (c - 1) q1 q2
   obtain⟨i1,i2,i3⟩:=q3
   have ec:((c:Int) - 1).toNat=c - 1:=by omega
   have hgt:((nI t).map intD)[((c:Int) - 1).toNat]?=some (intD ((t.getD (c - 1) 0:Nat):Int)):=by rw[ec];exact nI_get (by rw[g3];exact q2)
   have hga:((nI a).map intD)[((c:Int) - 1).toNat]?=some (intD ((a.getD (c - 1) 0:Nat):Int)):=by rw[ec];exact nI_get q2
   have htb:t.getD (c - 1) 0≤ns.length+1:=by
    rw[hI.hts (c - 1) q1 q2];exact nestF_le _ _ _
   have hj0:0≤(c:Int) - 1:=by omega
   have hj1:((c:Int) - 1).toNat<((nI t).map intD).length:=by rw[nI_len,ec];omega
   have hj2:((c:Int) - 1).toNat<((nI a).map intD).length:=by rw[nI_len,ec];omega
   have hmx:(if((t.getD (c - 1) 0:Nat):Int)>(top:Int) then((t.getD (c - 1) 0:Nat):Int) else(top:Int))=((max top (t.getD (c - 1) 0):Nat):Int):=by split<;>omega
   have hws:IntKind.i64.wrap ((c:Int) - 1 - ((a.getD (c - 1) 0:Nat):Int))=((c - a.getD (c - 1) 0:Nat):Int) - 1:=by rw[wrap_in (by omega)];omega
   have hwm:IntKind.i64.wrap ((m:Int) - 1 - 1)=((m - 1:Nat):Int) - 1:=by rw[wrap_in (by omega)];omega
   conv=>whnf
   refine⟨hj0,hj1,?_⟩
   conv=>whnf
   refine⟨_,hgt,?_⟩
   conv=>whnf
   refine⟨hj0,hj2,?_⟩
   conv=>whnf
   refine⟨_,hga,?_⟩
   conv=>whnf
   refine⟨(m - 1,c - a.getD (c - 1) 0,max top (t.getD (c - 1) 0)),⟨by omega,by omega,by omega,by omega,m5⟩,by(try dsimp only);omega,?_⟩
   refine⟨rfl,?_,?_⟩<;>repeat' (first|exact trivial|exact rfl|(rw[nI_snoc];exact rfl)|refine and_rfl ?_|refine and_val hws ?_|refine and_val hmx ?_|refine and_val hwm ?_|refine and_two ?_ ?_)
  have e1:m=0:=by simp at e1;omega
  rw[e1,List.take_zero,List.reverse_nil] at m5
  simp only[kidM] at m5
  have q0:=hR3.trans m5.symm
  have q1:=kidM_kids _ _ _ q0
  obtain⟨kc,kk⟩:=q1
  have hkid:∀x∈js,∃j:Nat,x=((j:Nat):Int)∧j<ns.length:=fun x hx=>by
   obtain⟨j,h1,h2⟩:=kk x (List.mem_reverse.2 hx)
   exact⟨j,h1,by omega⟩
  conv=>whnf
  refine⟨_,x_rfields ⟨kd,s,v,ks,js⟩ hno,?_⟩
  conv=>whnf
  rintro(_|_) f1
  rotate_left
  ·have f1:fieldsB ⟨kd,s,v,ks⟩ js.length=false:=by simpa using f1
   have hz:=hfail3 (by unfold nodeM;rw[hR3,←m5];simp[f1])
   repeat((conv=>whnf);first|refine known true rfl ?_|refine known false rfl ?_)
   conv=>whnf
   rw[hz]
   first|done|rfl
  have f1:fieldsB ⟨kd,s,v,ks⟩ js.length=true:=by simpa using f1
  conv=>whnf
  refine⟨_,x_rparts ns hns ⟨kd,s,v,ks,js⟩ hno hkid,?_⟩
  conv=>whnf
  rintro(_|_) f2
  rotate_left
  ·have f2:partsB ns ⟨kd,s,v,ks,js⟩=false:=by simpa using f2
   have hz:=hfail3 (by unfold nodeM;rw[hR3,←m5];simp[f2])
   conv=>whnf
   rw[hz]
   first|done|rfl
  have f2:partsB ns ⟨kd,s,v,ks,js⟩=true:=by simpa using f2
  have hnm:nodeM ns sz.length a t a.length ⟨kd,s,v,ks,js⟩=some (a.length+1 - c,top+1):=by
   unfold nodeM;rw[hR3,←m5];simp[f1,f2]
  rw[hnm] at g6
  dsimp only at g6
  have q2:=nodeM_spec hI g1 hsome hnm
  obtain⟨s1,s2,s3,s4⟩:=q2
  have hw5:IntKind.i64.wrap (((a.length:Nat):Int) - ((c:Int) - 1))=((a.length+1 - c:Nat):Int):=by rw[wrap_in (by omega)];omega
  have hw6:IntKind.i64.wrap (((top:Nat):Int)+1)=((top+1:Nat):Int):=wrap_succ (by omega)
  have hwa:IntKind.i64.wrap (((a.length:Nat):Int)+1)=(((a++[a.length+1 - c]).length:Nat):Int):=by rw[List.length_append,List.length_singleton];exact hwi
  conv=>whnf
  refine⟨by rw[nI_len];show(a.length+1)*8≤_;omega,?_⟩
  conv=>whnf
  refine⟨by rw[nI_len];show(t.length+1)*8≤_;omega,?_⟩
  conv=>whnf
  refine⟨(a++[a.length+1 - c],t++[top+1]),⟨by rw[List.length_append];omega,by rw[List.length_append,List.length_singleton];omega,by rw[List.length_append,List.length_append,g3];rfl,hI.snoc ⟨s1,s2,s3⟩ s4,fun x hx=>?_,by rw[List.length_append,List.length_singleton,show b+1 - (a.length+1)=b - a.length by omega];exact g6⟩,by(try dsimp only);rw[List.length_append,List.length_singleton];omega,?_⟩
  ·rcases List.mem_append.1 hx with hx|hx
   ·exact g5 x hx
   ·obtain rfl:=List.mem_singleton.1 hx
    rw[s4];exact nestF_le _ _ _
  refine⟨rfl,?_,?_⟩<;>repeat' (first|exact trivial|exact rfl|exact nI_snocv hw5|exact nI_snocv hw6|refine and_rfl ?_|refine and_val hwa ?_|refine and_two ?_ ?_)
 have h8:a.length=b+1:=by simp at h8;omega
 rw[h8,Nat.sub_self] at g6
 simp only[runM] at g6
 rw[←g6] at hM
 dsimp only at hM
 have hga:((nI a).map intD)[((b:Nat):Int).toNat]?=some (intD ((a.getD b 0:Nat):Int)):=by rw[Int.toNat_natCast];exact nI_get (by omega)
 obtain⟨S,hS⟩:∃S,S=a.getD b 0:=⟨_,rfl⟩
 rw[←hS] at hga hM
 have hw8:IntKind.i64.wrap (IntKind.i64.wrap (((b:Nat):Int) - ((sz.length:Nat):Int))+1)=((b+1 - sz.length:Nat):Int):=by
  have:IntKind.i64.wrap (((b:Nat):Int) - ((sz.length:Nat):Int))=((b:Nat):Int) - ((sz.length:Nat):Int):=wrap_in (by omega)
  rw[this,wrap_in (by omega)];omega
 have hw9:IntKind.i64.wrap (((b:Nat):Int)+1)=((a.length:Nat):Int):=by rw[h8];exact wrap_succ (by omega)
 conv=>whnf
 refine⟨Int.natCast_nonneg b,by rw[nI_len,Int.toNat_natCast];omega,?_⟩
 conv=>whnf
 refine⟨_,hga,?_⟩
 conv=>whnf
 rintro(_|_) q1
 rotate_left
 ·have q1:S≠b+1 - sz.length:=by rw[hw8] at q1;simp at q1;omega
  rw[if_neg q1] at hM
  conv=>whnf
  rw[←hM]
  first|done|rfl
 have q1:S=b+1 - sz.length:=by rw[hw8] at q1;simp at q1;omega
 rw[if_pos q1] at hM
 conv=>whnf
 refine⟨(k+1,a,t),⟨h1,g3,by omega,g5,hM⟩,by(try dsimp only);omega,?_⟩
 refine⟨rfl,?_,?_⟩<;>repeat' (first|exact trivial|exact rfl|(rw[nI_snoc];exact rfl)|refine and_rfl ?_|refine and_val hw9 ?_|refine and_val hwk ?_|refine and_two ?_ ?_)
end Go.Proofs.YtglndfgmlminpaaGreatDoor
namespace Go.Proofs.YtglndfgmlminpaaGreatDoor
open Go.RowKit
theorem fcs_body:∀(Fs:List FnT) (b:Nat),∀f∈fcs b Fs,0≤f.body
 |[],_,f,h=>by cases h
 |F::Fs,b,f,h=>by
  simp only[fcs] at h
  rcases List.mem_cons.1 h with rfl|h
  ·have:=F.body.size_pos;dsimp only;omega
  ·exact fcs_body Fs _ f h
theorem ord_body {p:Pg} (h:ordB p=true):∀f∈p.funcs,0≤f.body:=by
 obtain⟨Fs,_,rfl⟩:=ord_iff.1 h
 exact fcs_body Fs 0
theorem meas_ord (p:Pg):(measV p).2.2=ordB p∧(ordB p=true→∀f∈p.funcs,f.body.toNat<(measV p).2.1.length∧(measV p).2.1.getD f.body.toNat 0=nestF p.nodes (p.nodes.length+1) f.body.toNat):=by
 have h:=measM_ord p
 unfold measM at h
 unfold measV resM
 cases hF:funcsM p.nodes p.funcs [] [] with
 |none=>rw[hF] at h;dsimp only at h⊢;exact⟨h.symm,fun e=>by rw[h] at e;cases e⟩
 |some r=>
  obtain⟨sz,ht⟩:=r
  rw[hF] at h
  dsimp only at h⊢
  by_cases hn:sz.length=p.nodes.length
  ·rw[if_pos hn] at h
   exact⟨by rw[h.1];simpa using hn,fun _=>h.2⟩
  ·rw[if_neg hn] at h
   exact⟨by rw[h];simpa using hn,fun e=>by rw[h] at e;cases e⟩
def badF (ns:List Nd) (f:Fc):Bool:=decide (8<f.params.length)||decide (32<nestF ns (ns.length+1) f.body.toNat)
theorem foldl_gt {α:Type} (F:α→Nat) (B:Nat):∀(xs:List α) (m:Nat),B<xs.foldl (fun m f=>max m (F f)) m↔B<m∨∃x∈xs,B<F x
 |[],m=>by simp
 |x::xs,m=>by
  rw[List.foldl_cons,foldl_gt F B xs]
  constructor
  ·rintro(h|⟨y,hy,h⟩)
   ·rcases Nat.lt_or_ge B m with h1|h1
    ·exact .inl h1
    ·exact .inr ⟨x,by simp,by omega⟩
   ·exact .inr ⟨y,by simp[hy],h⟩
  ·rintro(h|⟨y,hy,h⟩)
   ·exact .inl (by omega)
   ·rcases List.mem_cons.1 hy with rfl|hy
    ·exact .inl (by omega)
    ·exact .inr ⟨y,hy,h⟩
theorem bad_any (p:Pg):(p.funcs.any (fun f=>decide (8<f.params.length))=true∨32<deepF p)↔p.funcs.any (badF p.nodes)=true:=by
 unfold deepF
 rw[foldl_gt]
 simp only[List.any_eq_true,badF,Bool.or_eq_true,decide_eq_true_eq]
 constructor
 ·rintro(⟨x,hx,h⟩|h|⟨x,hx,h⟩)
  ·exact⟨x,hx,.inl h⟩
  ·omega
  ·exact⟨x,hx,.inr h⟩
 ·rintro⟨x,hx,h|h⟩
  ·exact .inl ⟨x,hx,h⟩
  ·exact .inr (.inr ⟨x,hx,h⟩)
theorem x_rcheck (p:Pg) (hp:PgOk p):DCalls Tryz.prog 14 [p.V] (int (checkP p)):=by
 have hms:=x_rmeasure p hp
 obtain⟨ho1,ho2⟩:=meas_ord p
 have hbd:=@ord_body p
 have hck:checkP p=if 600<p.nodes.length∨16<p.funcs.length then 3 else if ordB p=false then 1 else if p.funcs.any (badF p.nodes)=true then 3 else 0:=by
  unfold checkP
  split
  ·rfl
  split
  ·rfl
  ·simp only[bad_any]
 generalize measV p=mv at*
 obtain⟨sz,ht,is⟩:=mv
 dsimp only at ho1 ho2
 subst ho1
 have hf1:=hp.fs
 have hln:(p.nodes.map ndD).length=p.nodes.length:=List.length_map _
 have hlf:(p.funcs.map fcD).length=p.funcs.length:=List.length_map _
 refine sx Tryz.func14 (by kernel_rfl) ?_
 conv=>whnf
 rintro(_|_) h1
 rotate_left
 ·have h1:600<p.nodes.length:=by rw[hln] at h1;simp at h1;omega
  rw[hck,if_pos (.inl h1)]
  repeat((conv=>whnf);first|refine known true rfl ?_|refine known false rfl ?_)
  (conv=>whnf)<;>rfl
 have h1:¬600<p.nodes.length:=by rw[hln] at h1;simp at h1;omega
 conv=>whnf
 rintro(_|_) h2
 rotate_left
 ·have h2:16<p.funcs.length:=by rw[hlf] at h2;simp at h2;omega
  rw[hck,if_pos (.inr h2)]
  repeat((conv=>whnf);first|refine known true rfl ?_|refine known false rfl ?_)
  (conv=>whnf)<;>rfl
 have h2:¬16<p.funcs.length:=by rw[hlf] at h2;simp at h2;omega
 rw[hck,if_neg (by omega)]
 conv=>whnf
 refine⟨_,hms,?_⟩
 conv=>whnf
 rintro(_|_) h3
 rotate_left
 ·have h3:ordB p=false:=by simpa using h3
  rw[if_pos h3]
  (conv=>whnf)<;>rfl
 have h3:ordB p=true:=by simpa using h3
 rw[if_neg (by simp[h3])]
 have hms2:=ho2 h3
 have hbd2:=hbd h3
 obtain⟨ns,fs⟩:=p
 dsimp only at hms2 hbd2 hf1 hlf h2⊢
 conv=>whnf
 refine⟨[],Nat,fun k=>[(6,int k)],fun _=>[],fun k=>k≤fs.length∧(fs.drop k).any (badF ns)=fs.any (badF ns),fun k=>fs.length - k,0,⟨Nat.zero_le _,rfl⟩,?_,?_⟩
 ·refine⟨rfl,?_,?_⟩<;>repeat' (first|exact trivial|exact rfl|refine and_rfl ?_|refine and_two ?_ ?_)
 rintro k ⟨hk,hb⟩
 conv=>whnf
 rintro(_|_) h4
 ·have h4:fs.length≤k:=by simp at h4;omega
  rw[List.drop_eq_nil_of_le h4] at hb
  rw[←hb,List.any_nil,if_neg (by simp)]
  (conv=>whnf)<;>rfl
 have h4:k<fs.length:=by simp at h4;omega
 have hwk:IntKind.i64.wrap (((k:Nat):Int)+1)=((k+1:Nat):Int):=wrap_succ (by omega)
 have hg:(fs.map fcD)[((k:Nat):Int).toNat]?=some (fcD fs[k]):=get_map fcD h4
 obtain⟨m1,m2⟩:=hms2 fs[k] (List.getElem_mem h4)
 have m3:=hbd2 fs[k] (List.getElem_mem h4)
 rw[List.drop_eq_getElem_cons h4,List.any_cons] at hb
 generalize fs[k]=f at hg m1 m2 m3 hb
 obtain⟨nm,ps,bd⟩:=f
 dsimp only at m1 m2 m3
 obtain⟨b,rfl⟩:∃b:Nat,bd=b:=⟨bd.toNat,by omega⟩
 rw[Int.toNat_natCast] at m1 m2
 have hlp:(ps.map strD).length=ps.length:=List.length_map _
 replace hg:(fs.map fcD)[((k:Nat):Int).toNat]?=some [.cv (.string (mk nm)),.sl 1 (ps.map strD),.cv (.int .i64 ((b:Nat):Int))]:=hg
 have hgh:((nI ht).map intD)[((b:Nat):Int).toNat]?=some (intD ((ht.getD b 0:Nat):Int)):=by rw[Int.toNat_natCast];exact nI_get m1
 rw[m2] at hgh
 have hbf:badF ns ⟨nm,ps,((b:Nat):Int)⟩=(decide (8<ps.length)||decide (32<nestF ns (ns.length+1) b)):=by unfold badF;rw[Int.toNat_natCast]
 rw[hbf] at hb
 generalize nestF ns (ns.length+1) b=H at hgh hb
 conv=>whnf
 refine⟨Int.natCast_nonneg k,_,hg,?_⟩
 conv=>whnf
 rintro(_|_) h5
 rotate_left
 ·have h5:8<ps.length:=by rw[hlp] at h5;simp at h5;omega
  rw[decide_eq_true h5,Bool.true_or,Bool.true_or] at hb
  rw[←hb,if_pos rfl]
  repeat((conv=>whnf);first|refine known true rfl ?_|refine known false rfl ?_)
  (conv=>whnf)<;>rfl
 have h5:¬8<ps.length:=by rw[hlp] at h5;simp at h5;omega
 conv=>whnf
 refine⟨Int.natCast_nonneg k,_,hg,?_⟩
 conv=>whnf
 refine⟨Int.natCast_nonneg b,_,hgh,?_⟩
 conv=>whnf
 rintro(_|_) h6
 rotate_left
 ·have h6:32<H:=by simp at h6;omega
  rw[decide_eq_true h6,Bool.or_true,Bool.true_or] at hb
  rw[←hb,if_pos rfl]
  (conv=>whnf)<;>rfl
 have h6:¬32<H:=by simp at h6;omega
 rw[decide_eq_false h5,decide_eq_false h6,Bool.false_or,Bool.false_or] at hb
 conv=>whnf
 refine⟨k+1,⟨h4,hb⟩,by(try dsimp only);omega,?_⟩
 refine⟨rfl,?_,?_⟩<;>repeat' (first|exact trivial|exact rfl|refine and_rfl ?_|refine and_val hwk ?_|refine and_two ?_ ?_)
end Go.Proofs.YtglndfgmlminpaaGreatDoor
namespace Go.Proofs.YtglndfgmlminpaaGreatDoor
open Go.RowKit
end Go.Proofs.YtglndfgmlminpaaGreatDoor
namespace Go.Proofs.YtglndfgmlminpaaGreatDoor
open Go.RowKit
theorem neS {s s':Bs} {b:Bool} (h:(!((mk s).toList==(mk s').toList))=b):(s==s')= !b:=by
 rw[show((mk s).toList==(mk s').toList)=(s==s') from sEq_mk _ _] at h;rw[←h,Bool.not_not]
theorem x_rsame (a b:Pg) (ha:PgOk a):DCalls Tryz.prog 11 [a.V,b.V] (boo (sameP a b)):=by
 obtain⟨ns,fs⟩:=a
 obtain⟨ns',fs'⟩:=b
 obtain⟨⟨hn1,hn2⟩,hf1,hf2⟩:=ha
 dsimp only at hn1 hn2 hf1 hf2
 have hln:(ns.map ndD).length=ns.length:=List.length_map _
 have hln':(ns'.map ndD).length=ns'.length:=List.length_map _
 have hlf:(fs.map fcD).length=fs.length:=List.length_map _
 have hlf':(fs'.map fcD).length=fs'.length:=List.length_map _
 generalize hS:sameP ⟨ns,fs⟩ ⟨ns',fs'⟩=S
 have hS0:all2 ndB ns ns'=false→S=false:=fun h=>by rw[←hS];unfold sameP;rw[h,Bool.false_and]
 have hS1:all2 fcB fs fs'=false→S=false:=fun h=>by rw[←hS];unfold sameP;rw[h,Bool.and_false]
 have hS2:all2 ndB ns ns'=true→all2 fcB fs fs'=true→S=true:=fun h h'=>by rw[←hS];unfold sameP;rw[h,h'];rfl
 clear hS
 refine sx Tryz.func11 (by kernel_rfl) ?_
 conv=>whnf
 rintro(_|_) h1
 rotate_left
 ·have h1:ns.length≠ns'.length:=by rw[hln,hln'] at h1;simp at h1;omega
  rw[hS0 (all2_len h1)]
  repeat((conv=>whnf);first|refine known true rfl ?_|refine known false rfl ?_)
  (conv=>whnf)<;>rfl
 have h1:ns.length=ns'.length:=by rw[hln,hln'] at h1;simp at h1;omega
 conv=>whnf
 rintro(_|_) h2
 rotate_left
 ·have h2:fs.length≠fs'.length:=by rw[hlf,hlf'] at h2;simp at h2;omega
  rw[hS1 (all2_len h2)]
  repeat((conv=>whnf);first|refine known true rfl ?_|refine known false rfl ?_)
  (conv=>whnf)<;>rfl
 have h2:fs.length=fs'.length:=by rw[hlf,hlf'] at h2;simp at h2;omega
 conv=>whnf
 refine⟨[],Nat,fun k=>[(5,int k)],fun _=>[],fun k=>k≤ns.length∧all2 ndB (ns.drop k) (ns'.drop k)=all2 ndB ns ns',fun k=>ns.length - k,0,⟨Nat.zero_le _,rfl⟩,?_,?_⟩
 ·refine⟨rfl,?_,?_⟩<;>repeat' (first|exact trivial|exact rfl|refine and_rfl ?_|refine and_two ?_ ?_)
 rintro k ⟨hk,hK⟩
 conv=>whnf
 rintro(_|_) h3
 rotate_left
 ·have h3:k<ns.length:=by rw[hln] at h3;simp at h3;omega
  have hwk:IntKind.i64.wrap (((k:Nat):Int)+1)=((k+1:Nat):Int):=wrap_succ (by omega)
  have hg:(ns.map ndD)[((k:Nat):Int).toNat]?=some (ndD ns[k]):=get_map ndD h3
  have hg':(ns'.map ndD)[((k:Nat):Int).toNat]?=some (ndD (ns'[k]'(by omega))):=get_map ndD (by omega)
  have hno:=hn2 ns[k] (List.getElem_mem h3)
  rw[all2_drop h3 (by omega)] at hK
  generalize ns[k]=n at hg hno hK
  generalize ns'[k]'(by omega)=n' at hg' hK
  obtain⟨kd,s,v,ks,js⟩:=n
  obtain⟨kd',s',v',ks',js'⟩:=n'
  obtain⟨_,hk1,_,hk3⟩:=hno
  dsimp only at hk1 hk3
  have hlj:(js.map intD).length=js.length:=List.length_map _
  have hlj':(js'.map intD).length=js'.length:=List.length_map _
  replace hg:(ns.map ndD)[((k:Nat):Int).toNat]?=some [.cv (.int .i64 kd),.cv (.string (mk s)),.cv (.int .i64 v),.sl 1 (ks.map strD),.sl 1 (js.map intD)]:=hg
  replace hg':(ns'.map ndD)[((k:Nat):Int).toNat]?=some [.cv (.int .i64 kd'),.cv (.string (mk s')),.cv (.int .i64 v'),.sl 1 (ks'.map strD),.sl 1 (js'.map intD)]:=hg'
  have hbad:ndB ⟨kd,s,v,ks,js⟩ ⟨kd',s',v',ks',js'⟩=false→S=false:=fun h=>by rw[h,Bool.false_and] at hK;exact hS0 hK.symm
  have hnd:ndB ⟨kd,s,v,ks,js⟩ ⟨kd',s',v',ks',js'⟩=(kd==kd' &&s==s' &&v==v' &&all2 strB ks ks' &&all2 intB js js'):=rfl
  rw[hnd] at hbad hK
  clear hnd hS0 hS1 hS2
  conv=>whnf
  refine⟨Int.natCast_nonneg k,_,hg,?_⟩
  conv=>whnf
  refine⟨Int.natCast_nonneg k,_,hg',?_⟩
  conv=>whnf
  rintro(_|_) c1
  rotate_left
  ·have c1:(kd==kd')=false:=by simpa using c1
   rw[hbad (by rw[c1];rfl)]
   repeat((conv=>whnf);first|refine known true rfl ?_|refine known false rfl ?_)
   (conv=>whnf)<;>rfl
  have c1:(kd==kd')=true:=by simpa using c1
  conv=>whnf
  rintro(_|_) c2
  rotate_left
  ·have c2:=neS c2
   rw[hbad (by rw[c1,c2];rfl)]
   repeat((conv=>whnf);first|refine known true rfl ?_|refine known false rfl ?_)
   (conv=>whnf)<;>rfl
  have c2:=neS c2
  conv=>whnf
  rintro(_|_) c3
  rotate_left
  ·have c3:(v==v')=false:=by simpa using c3
   rw[hbad (by rw[c1,c2,c3];rfl)]
   repeat((conv=>whnf);first|refine known true rfl ?_|refine known false rfl ?_)
   (conv=>whnf)<;>rfl
  have c3:(v==v')=true:=by simpa using c3
  conv=>whnf
  refine⟨_,x_rstrings ks ks' hk1,?_⟩
  conv=>whnf
  rintro(_|_) c4
  rotate_left
  ·have c4:all2 strB ks ks'=false:=by simpa using c4
   rw[hbad (by rw[c1,c2,c3,c4];rfl)]
   repeat((conv=>whnf);first|refine known true rfl ?_|refine known false rfl ?_)
   (conv=>whnf)<;>rfl
  have c4:all2 strB ks ks'=true:=by simpa using c4
  conv=>whnf
  rintro(_|_) c5
  rotate_left
  ·have c5:js.length≠js'.length:=by rw[hlj,hlj'] at c5;simp at c5;omega
   rw[hbad (by rw[all2_len c5,Bool.and_false])]
   repeat((conv=>whnf);first|refine known true rfl ?_|refine known false rfl ?_)
   (conv=>whnf)<;>rfl
  have c5:js.length=js'.length:=by rw[hlj,hlj'] at c5;simp at c5;omega
  conv=>whnf
  refine⟨[],Nat,fun j=>[(8,int j)],fun _=>[],fun j=>j≤js.length∧all2 intB (js.drop j) (js'.drop j)=all2 intB js js',fun j=>js.length - j,0,⟨Nat.zero_le _,rfl⟩,?_,?_⟩
  ·refine⟨rfl,?_,?_⟩<;>repeat' (first|exact trivial|exact rfl|refine and_rfl ?_|refine and_two ?_ ?_)
  rintro j ⟨hj,hJ⟩
  conv=>whnf
  rintro(_|_) h4
  rotate_left
  ·have h4:j<js.length:=by rw[hlj] at h4;simp at h4;omega
   have hwj:IntKind.i64.wrap (((j:Nat):Int)+1)=((j+1:Nat):Int):=wrap_succ (by omega)
   have hg2:(js.map intD)[((j:Nat):Int).toNat]?=some (intD js[j]):=get_map intD h4
   have hg2':(js'.map intD)[((j:Nat):Int).toNat]?=some (intD (js'[j]'(by omega))):=get_map intD (by omega)
   rw[all2_drop h4 (by omega)] at hJ
   generalize js[j]=x at hg2 hJ
   generalize js'[j]'(by omega)=x' at hg2' hJ
   conv=>whnf
   refine⟨none,by kernel_rfl,?_⟩
   conv=>whnf
   refine⟨Int.natCast_nonneg j,_,hg2,?_⟩
   conv=>whnf
   refine⟨Int.natCast_nonneg j,_,hg2',?_⟩
   conv=>whnf
   rintro(_|_) c6
   rotate_left
   ·have c6:intB x x'=false:=by unfold intB;simpa using c6
    rw[c6,Bool.false_and] at hJ
    rw[hbad (by rw[←hJ,Bool.and_false])]
    repeat((conv=>whnf);first|refine known true rfl ?_|refine known false rfl ?_)
    (conv=>whnf)<;>rfl
   have c6:intB x x'=true:=by unfold intB;simpa using c6
   rw[c6,Bool.true_and] at hJ
   conv=>whnf
   refine⟨j+1,⟨h4,hJ⟩,by(try dsimp only);omega,?_⟩
   refine⟨rfl,?_,?_⟩<;>repeat' (first|exact trivial|exact rfl|refine and_rfl ?_|refine and_val hwj ?_|refine and_two ?_ ?_)
  have h4:js.length≤j:=by rw[hlj] at h4;simp at h4;omega
  rw[List.drop_eq_nil_of_le h4,List.drop_eq_nil_of_le (by omega),show all2 intB [] []=true from rfl] at hJ
  rw[c1,c2,c3,c4,←hJ] at hK
  conv=>whnf
  refine⟨k+1,⟨h3,hK⟩,by(try dsimp only);omega,?_⟩
  refine⟨rfl,?_,?_⟩<;>repeat' (first|exact trivial|exact rfl|refine and_rfl ?_|refine and_val hwk ?_|refine and_two ?_ ?_)
 have h3:ns.length≤k:=by rw[hln] at h3;simp at h3;omega
 rw[List.drop_eq_nil_of_le h3,List.drop_eq_nil_of_le (by omega),show all2 ndB [] []=true from rfl] at hK
 conv=>whnf
 refine⟨[],Nat,fun k=>[(9,int k)],fun _=>[],fun k=>k≤fs.length∧all2 fcB (fs.drop k) (fs'.drop k)=all2 fcB fs fs',fun k=>fs.length - k,0,⟨Nat.zero_le _,rfl⟩,?_,?_⟩
 ·refine⟨rfl,?_,?_⟩<;>repeat' (first|exact trivial|exact rfl|refine and_rfl ?_|refine and_two ?_ ?_)
 rintro m ⟨hm,hM⟩
 conv=>whnf
 rintro(_|_) h5
 ·have h5:fs.length≤m:=by rw[hlf] at h5;simp at h5;omega
  rw[List.drop_eq_nil_of_le h5,List.drop_eq_nil_of_le (by omega),show all2 fcB [] []=true from rfl] at hM
  rw[hS2 hK.symm hM.symm]
  (conv=>whnf)<;>rfl
 have h5:m<fs.length:=by rw[hlf] at h5;simp at h5;omega
 have hwm:IntKind.i64.wrap (((m:Nat):Int)+1)=((m+1:Nat):Int):=wrap_succ (by omega)
 have hg:(fs.map fcD)[((m:Nat):Int).toNat]?=some (fcD fs[m]):=get_map fcD h5
 have hg':(fs'.map fcD)[((m:Nat):Int).toNat]?=some (fcD (fs'[m]'(by omega))):=get_map fcD (by omega)
 have hfo:=hf2 fs[m] (List.getElem_mem h5)
 rw[all2_drop h5 (by omega)] at hM
 generalize fs[m]=f at hg hfo hM
 generalize fs'[m]'(by omega)=f' at hg' hM
 obtain⟨nm,ps,bd⟩:=f
 obtain⟨nm',ps',bd'⟩:=f'
 obtain⟨_,hp1,_⟩:=hfo
 dsimp only at hp1
 replace hg:(fs.map fcD)[((m:Nat):Int).toNat]?=some [.cv (.string (mk nm)),.sl 1 (ps.map strD),.cv (.int .i64 bd)]:=hg
 replace hg':(fs'.map fcD)[((m:Nat):Int).toNat]?=some [.cv (.string (mk nm')),.sl 1 (ps'.map strD),.cv (.int .i64 bd')]:=hg'
 have hbad:fcB ⟨nm,ps,bd⟩ ⟨nm',ps',bd'⟩=false→S=false:=fun h=>by rw[h,Bool.false_and] at hM;exact hS1 hM.symm
 have hnd:fcB ⟨nm,ps,bd⟩ ⟨nm',ps',bd'⟩=(nm==nm' &&bd==bd' &&all2 strB ps ps'):=rfl
 rw[hnd] at hbad hM
 clear hnd
 conv=>whnf
 refine⟨none,by kernel_rfl,?_⟩
 conv=>whnf
 refine⟨Int.natCast_nonneg m,_,hg,?_⟩
 conv=>whnf
 refine⟨Int.natCast_nonneg m,_,hg',?_⟩
 conv=>whnf
 rintro(_|_) c1
 rotate_left
 ·have c1:=neS c1
  rw[hbad (by rw[c1];rfl)]
  repeat((conv=>whnf);first|refine known true rfl ?_|refine known false rfl ?_)
  (conv=>whnf)<;>rfl
 have c1:=neS c1
 conv=>whnf
 refine⟨Int.natCast_nonneg m,_,hg,?_⟩
 conv=>whnf
 refine⟨Int.natCast_nonneg m,_,hg',?_⟩
 conv=>whnf
 rintro(_|_) c2
 rotate_left
 ·have c2:(bd==bd')=false:=by simpa using c2
  rw[hbad (by rw[c1,c2];rfl)]
  repeat((conv=>whnf);first|refine known true rfl ?_|refine known false rfl ?_)
  (conv=>whnf)<;>rfl
 have c2:(bd==bd')=true:=by simpa using c2
 conv=>whnf
 refine⟨Int.natCast_nonneg m,_,hg,?_⟩
 conv=>whnf
 refine⟨Int.natCast_nonneg m,_,hg',?_⟩
 conv=>whnf
 refine⟨_,x_rstrings ps ps' hp1,?_⟩
 conv=>whnf
 rintro(_|_) c3
 rotate_left
 ·have c3:all2 strB ps ps'=false:=by simpa using c3
  rw[hbad (by rw[c1,c2,c3];rfl)]
  repeat((conv=>whnf);first|refine known true rfl ?_|refine known false rfl ?_)
  (conv=>whnf)<;>rfl
 have c3:all2 strB ps ps'=true:=by simpa using c3
 rw[c1,c2,c3] at hM
 conv=>whnf
 refine⟨m+1,⟨h5,hM⟩,by(try dsimp only);omega,?_⟩
 refine⟨rfl,?_,?_⟩<;>repeat' (first|exact trivial|exact rfl|refine and_rfl ?_|refine and_val hwm ?_|refine and_two ?_ ?_)
end Go.Proofs.YtglndfgmlminpaaGreatDoor
namespace Go.Proofs.YtglndfgmlminpaaGreatDoor
open Go.RowKit
theorem sameP_refl (p:Pg):sameP p p=true:=(sameP_eq p p).2 rfl
end Go.Proofs.YtglndfgmlminpaaGreatDoor
namespace Go.Proofs.YtglndfgmlminpaaGreatDoor
open Go.RowKit
end Go.Proofs.YtglndfgmlminpaaGreatDoor
