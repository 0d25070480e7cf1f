/- Texts joined by pack.py: XSyWL XSyWMa -/
import Derived.Test.YtglndfgmlminpaaGreatDoorSx37
set_option maxHeartbeats 16000000
set_option maxRecDepth 100000
namespace Go.Proofs.YtglndfgmlminpaaGreatDoor
open Go.RowKit
theorem x_rfields2 (s:Bs) (v:Int) (js:List Int):DCalls Tryz.prog 71 [Nd.V ⟨2,s,v,[],js⟩] (boo (fieldsB ⟨2,s,v,[]⟩ js.length)):=by
 have e:fieldsB ⟨2,s,v,[]⟩ js.length=(decide (s=[])&&(decide (v=0)||decide (v=1))):=by simp[fieldsB]
 rw[e]
 refine sx Tryz.func71 (by kernel_rfl) ?_
 by_cases hs:s=[]
 rotate_left
 ·repeat((conv=>whnf);first|refine known true rfl ?_|refine known false rfl ?_)
  conv=>whnf
  refine known true (nlit (b:=false) (by simpa using hs)) ?_
  try conv=>whnf
  exact fin_boo (by simp[hs])
 subst hs
 repeat((conv=>whnf);first|refine known true rfl ?_|refine known false rfl ?_)
 conv=>whnf
 refine known false (nlit (b:=true) rfl) ?_
 repeat((conv=>whnf);first|refine known true rfl ?_|refine known false rfl ?_)
 conv=>whnf
 rintro(_|_) h
 all_goals
  conv=>whnf
  exact fin_boo (by simp at h;simp[h,Bool.beq_eq_decide_eq])
theorem x_rfields3 (s:Bs) (v:Int) (js:List Int):DCalls Tryz.prog 71 [Nd.V ⟨3,s,v,[],js⟩] (boo (fieldsB ⟨3,s,v,[]⟩ js.length)):=by
 have e:fieldsB ⟨3,s,v,[]⟩ js.length=(decide (s=[])&&decide (0≤v)&&decide (v≤1000000000000)):=by simp[fieldsB]
 rw[e]
 refine sx Tryz.func71 (by kernel_rfl) ?_
 by_cases hs:s=[]
 rotate_left
 ·repeat((conv=>whnf);first|refine known true rfl ?_|refine known false rfl ?_)
  conv=>whnf
  refine known true (nlit (b:=false) (by simpa using hs)) ?_
  try conv=>whnf
  exact fin_boo (by simp[hs])
 subst hs
 repeat((conv=>whnf);first|refine known true rfl ?_|refine known false rfl ?_)
 conv=>whnf
 refine known false (nlit (b:=true) rfl) ?_
 repeat((conv=>whnf);first|refine known true rfl ?_|refine known false rfl ?_)
 conv=>whnf
 rintro(_|_) h
 all_goals
  conv=>whnf
  exact fin_boo (by rw[Bool.eq_iff_iff];simp at h⊢;omega)
theorem x_rfields (n:Nd) (hn:NdOk n):DCalls Tryz.prog 71 [n.V] (boo (fieldsB ⟨n.kind,n.text,n.val,n.keys⟩ n.kids.length)):=by
 obtain⟨k,s,v,ks,js⟩:=n
 by_cases h7:k=7
 ·subst h7;exact x_rfields7 s v ks js hn
 by_cases hA:k≠3∧k≠2∧v≠0
 ·obtain⟨h3,h2,hv⟩:=hA
  refine sx Tryz.func71 (by kernel_rfl) ?_
  conv=>whnf
  refine known true (by simpa using h3) ?_
  conv=>whnf
  refine known true (by simpa using h2) ?_
  conv=>whnf
  refine known true (by simpa using hv) ?_
  conv=>whnf
  exact fin_boo (by simp[fieldsB,h2,h3,hv])
 cases ks with
 |cons b ks=>
  by_cases h3:k=3
  ·subst h3
   refine sx Tryz.func71 (by kernel_rfl) ?_
   repeat((conv=>whnf);first|refine known true rfl ?_|refine known false rfl ?_|refine known true keys_pos ?_)
   try conv=>whnf
   exact fin_boo (by simp[fieldsB])
  by_cases h2:k=2
  ·subst h2
   refine sx Tryz.func71 (by kernel_rfl) ?_
   repeat((conv=>whnf);first|refine known true rfl ?_|refine known false rfl ?_|refine known true keys_pos ?_)
   try conv=>whnf
   exact fin_boo (by simp[fieldsB])
  obtain rfl:v=0:=Classical.byContradiction fun h=>hA ⟨h3,h2,h⟩
  refine sx Tryz.func71 (by kernel_rfl) ?_
  conv=>whnf
  refine known true (by simpa using h3) ?_
  conv=>whnf
  refine known true (by simpa using h2) ?_
  conv=>whnf
  refine known false rfl ?_
  conv=>whnf
  refine known true (by simpa using h7) ?_
  conv=>whnf
  refine known true keys_pos ?_
  try conv=>whnf
  exact fin_boo (by simp[fieldsB,h7])
 |nil=>
 by_cases h2:k=2
 ·subst h2;exact x_rfields2 s v js
 by_cases h3:k=3
 ·subst h3;exact x_rfields3 s v js
 obtain rfl:v=0:=Classical.byContradiction fun h=>hA ⟨h3,h2,h⟩
 have ht:=hn.text
 dsimp only at ht
 rcases kinds k with h|h|h|h|h|h|h|h|h|h|h|h|h|h|h|h|h|h|h|h
 rotate_right
 ·refine sx Tryz.func71 (by kernel_rfl) ?_
  conv=>whnf
  refine known true (by simpa using h3) ?_
  conv=>whnf
  refine known true (by simpa using h2) ?_
  conv=>whnf
  refine known false rfl ?_
  conv=>whnf
  refine known true (by simpa using h7) ?_
  conv=>whnf
  refine known false rfl ?_
  iterate 8 ((conv=>whnf);refine known false (by simp;omega) ?_)
  have e:fieldsB ⟨k,s,0,[]⟩ js.length=decide (s=[]):=by unfold fieldsB;rw[if_neg (by simp),if_neg (by simp;omega),if_neg (by simp;omega),if_neg (by simp;omega),if_neg (by simp;omega),if_neg (by simp;omega),if_neg (by simp;omega),if_neg (by simp;omega),if_neg (by simp;omega)]
  dsimp only
  rw[e]
  by_cases hs:s=[]
  ·subst hs
   conv=>whnf
   refine known false (nlit (b:=true) rfl) ?_
   conv=>whnf
   refine known false (by simpa using h2) ?_
   conv=>whnf
   refine known false (by simpa using h3) ?_
   conv=>whnf
   refine known true (by simpa using h7) ?_
   conv=>whnf
   exact fin_boo rfl
  ·conv=>whnf
   refine known true (nlit (b:=false) (by simpa using hs)) ?_
   conv=>whnf
   exact fin_boo (by simp[hs])
 all_goals subst h
 all_goals try(exfalso;omega)
 all_goals
  by_cases hs:s=[]
  ·subst hs
   refine sx Tryz.func71 (by kernel_rfl) ?_
   repeat((conv=>whnf);first|refine known true rfl ?_|refine known false rfl ?_|refine known false (nlit (b:=true) rfl) ?_|refine known false (lit0 rfl) ?_|refine⟨_,x_rstr08 [] ht,?_⟩|refine⟨_,x_rname08 [] ht,?_⟩|refine⟨_,x_rbinary08 [],?_⟩|(refine⟨_,x_rtextOfG ⟨6,[],0,0⟩ ht,?_⟩))
   try conv=>whnf
   all_goals first
    |(exact fin_boo rfl)
    |(exact fin_boo ((litE _ _).trans rfl))
    |(exact fin_boo ((textH0 _).trans rfl))
    |skip
  ·refine sx Tryz.func71 (by kernel_rfl) ?_
   repeat((conv=>whnf);first|refine known true rfl ?_|refine known false rfl ?_|refine known true (nlit (b:=false) (by simpa using hs)) ?_|refine⟨_,x_rstr08 s ht,?_⟩|refine⟨_,x_rname08 s ht,?_⟩|refine⟨_,x_rbinary08 s,?_⟩|(refine⟨_,x_rtextOfG ⟨6,s,0,0⟩ ht,?_⟩))
   try conv=>whnf
   all_goals first
    |(refine fin_boo ?_;simp[fieldsB,hs];done)
    |(exact fin_boo ((textH0 _).trans (by simp[fieldsB])))
    |skip
   try
    rintro(_|_) h
    ·dsimp only at h
     rw[litE] at h
     conv=>whnf
     refine fin_boo ((litE _ _).trans ?_)
     rw[Bool.eq_iff_iff]
     simp at h
     simp[fieldsB,sMi,wNot,h]
     exact decide_eq_true_iff.symm
    ·dsimp only at h
     rw[litE] at h
     conv=>whnf
     refine fin_boo ?_
     simp at h
     simp[fieldsB,sMi,wNot,h]
end Go.Proofs.YtglndfgmlminpaaGreatDoor
namespace Go.Proofs.YtglndfgmlminpaaGreatDoor
open Go.RowKit
theorem x_rparts1 (l:List Nd) (s:Bs) (v:Int) (ks:List Bs) (js:List Int) (_hln:l.length≤8796093022207) (_hjs:js.length≤17592186044415) (hkid:∀k∈js,∃j:Nat,k=((j:Nat):Int)∧j<l.length):DCalls Tryz.prog 72 [.sl true 5 (l.map ndD),Nd.V ⟨1,s,v,ks,js⟩] (boo (partsB l ⟨1,s,v,ks,js⟩)):=by
 have hjl:(js.map intD).length=js.length:=List.length_map _
 have e:partsB l ⟨1,s,v,ks,js⟩=(countB 1 js.length&&fitsL l 1 0 js):=rfl
 rw[e]
 obtain⟨F,hF⟩:∃F:Nat→List Int→Bool,F=fitsL l 1:=⟨_,rfl⟩
 rw[←hF]
 cases hc:countB 1 js.length with
 |false=>
  simp[countB] at hc
  refine sx Tryz.func72 (by kernel_rfl) ?_
  repeat((conv=>whnf);first|refine known true rfl ?_|refine known false rfl ?_|refine known true (by simp[hc];done) ?_|refine known true (by simp;omega) ?_)
  (conv=>whnf)<;>rfl
 |true=>
 rw[Bool.true_and]
 have hc:js.length=0:=by simp[countB] at hc;simp[hc]
 have hcb:(((js.map intD).length:Int) !=0)=false:=by rw[hjl,hc];rfl
 refine sx Tryz.func72 (by kernel_rfl) ?_
 repeat((conv=>whnf);first|refine known true rfl ?_|refine known false rfl ?_|refine known false hcb ?_)
 conv=>whnf
 refine⟨[],Nat,fun m=>[(7,int m)],fun _=>[],fun m=>m≤js.length∧F m (js.drop m)=F 0 js,fun m=>js.length - m,0,⟨Nat.zero_le _,rfl⟩,?_,?_⟩
 ·refine⟨rfl,?_,?_⟩<;>repeat' (first|exact trivial|exact rfl|refine and_rfl ?_|refine and_two ?_ ?_)
 rintro m ⟨hm,hk⟩
 conv=>whnf
 rintro(_|_) h2
 ·have h2:js.length≤m:=by simp at h2;omega
  rw[List.drop_eq_nil_of_le h2] at hk
  rw[←hk,hF]
  (conv=>whnf)<;>rfl
 have h2:m<js.length:=by simp at h2;omega
 have hw:IntKind.i64.wrap (((m:Nat):Int)+1)=((m+1:Nat):Int):=wrap_succ (by omega)
 obtain⟨j,hj1,hj2⟩:=hkid _ (List.getElem_mem h2)
 have hgj:(js.map intD)[((m:Nat):Int).toNat]?=some (intD ((j:Nat):Int)):=by rw[←hj1];exact get_map intD h2
 have hgn:(l.map ndD)[((j:Nat):Int).toNat]?=some (ndD l[j]):=get_map ndD hj2
 have hka:kindAt l js[m]=l[j].kind:=by unfold kindAt;rw[hj1,Int.toNat_natCast,List.getElem?_eq_getElem hj2];rfl
 rw[List.drop_eq_getElem_cons h2,hF] at hk
 simp only[fitsL] at hk
 rw[hka,←hF] at hk
 conv=>whnf
 refine⟨Int.natCast_nonneg m,_,hgj,?_⟩
 conv=>whnf
 refine⟨Int.natCast_nonneg j,_,hgn,?_⟩
 repeat((conv=>whnf);first|refine known true rfl ?_|refine known false rfl ?_)
 simp only[fitsB] at hk
 rw[if_neg (by decide),if_neg (by simp)] at hk
 refine⟨_,x_rexpression l[j],?_⟩
 conv=>whnf
 rintro(_|_) h3
 ·have h3:exprK l[j].kind=true:=by simpa using h3
  rw[h3,Bool.true_and] at hk
  conv=>whnf
  refine⟨m+1,⟨h2,hk⟩,by(try dsimp only);omega,?_⟩
  refine⟨rfl,?_,?_⟩<;>repeat' (first|exact trivial|exact rfl|refine and_rfl ?_|refine and_val hw ?_|refine and_two ?_ ?_)
 ·have h3:exprK l[j].kind=false:=by simpa using h3
  rw[h3,Bool.false_and] at hk
  rw[←hk]
  (conv=>whnf)<;>rfl
theorem x_rparts2 (l:List Nd) (s:Bs) (v:Int) (ks:List Bs) (js:List Int) (_hln:l.length≤8796093022207) (_hjs:js.length≤17592186044415) (hkid:∀k∈js,∃j:Nat,k=((j:Nat):Int)∧j<l.length):DCalls Tryz.prog 72 [.sl true 5 (l.map ndD),Nd.V ⟨2,s,v,ks,js⟩] (boo (partsB l ⟨2,s,v,ks,js⟩)):=by
 have hjl:(js.map intD).length=js.length:=List.length_map _
 have e:partsB l ⟨2,s,v,ks,js⟩=(countB 2 js.length&&fitsL l 2 0 js):=rfl
 rw[e]
 obtain⟨F,hF⟩:∃F:Nat→List Int→Bool,F=fitsL l 2:=⟨_,rfl⟩
 rw[←hF]
 cases hc:countB 2 js.length with
 |false=>
  simp[countB] at hc
  refine sx Tryz.func72 (by kernel_rfl) ?_
  repeat((conv=>whnf);first|refine known true rfl ?_|refine known false rfl ?_|refine known true (by simp[hc];done) ?_|refine known true (by simp;omega) ?_)
  (conv=>whnf)<;>rfl
 |true=>
 rw[Bool.true_and]
 have hc:js.length=0:=by simp[countB] at hc;simp[hc]
 have hcb:(((js.map intD).length:Int) !=0)=false:=by rw[hjl,hc];rfl
 refine sx Tryz.func72 (by kernel_rfl) ?_
 repeat((conv=>whnf);first|refine known true rfl ?_|refine known false rfl ?_|refine known false hcb ?_)
 conv=>whnf
 refine⟨[],Nat,fun m=>[(7,int m)],fun _=>[],fun m=>m≤js.length∧F m (js.drop m)=F 0 js,fun m=>js.length - m,0,⟨Nat.zero_le _,rfl⟩,?_,?_⟩
 ·refine⟨rfl,?_,?_⟩<;>repeat' (first|exact trivial|exact rfl|refine and_rfl ?_|refine and_two ?_ ?_)
 rintro m ⟨hm,hk⟩
 conv=>whnf
 rintro(_|_) h2
 ·have h2:js.length≤m:=by simp at h2;omega
  rw[List.drop_eq_nil_of_le h2] at hk
  rw[←hk,hF]
  (conv=>whnf)<;>rfl
 have h2:m<js.length:=by simp at h2;omega
 have hw:IntKind.i64.wrap (((m:Nat):Int)+1)=((m+1:Nat):Int):=wrap_succ (by omega)
 obtain⟨j,hj1,hj2⟩:=hkid _ (List.getElem_mem h2)
 have hgj:(js.map intD)[((m:Nat):Int).toNat]?=some (intD ((j:Nat):Int)):=by rw[←hj1];exact get_map intD h2
 have hgn:(l.map ndD)[((j:Nat):Int).toNat]?=some (ndD l[j]):=get_map ndD hj2
 have hka:kindAt l js[m]=l[j].kind:=by unfold kindAt;rw[hj1,Int.toNat_natCast,List.getElem?_eq_getElem hj2];rfl
 rw[List.drop_eq_getElem_cons h2,hF] at hk
 simp only[fitsL] at hk
 rw[hka,←hF] at hk
 conv=>whnf
 refine⟨Int.natCast_nonneg m,_,hgj,?_⟩
 conv=>whnf
 refine⟨Int.natCast_nonneg j,_,hgn,?_⟩
 repeat((conv=>whnf);first|refine known true rfl ?_|refine known false rfl ?_)
 simp only[fitsB] at hk
 rw[if_neg (by decide),if_neg (by simp)] at hk
 refine⟨_,x_rexpression l[j],?_⟩
 conv=>whnf
 rintro(_|_) h3
 ·have h3:exprK l[j].kind=true:=by simpa using h3
  rw[h3,Bool.true_and] at hk
  conv=>whnf
  refine⟨m+1,⟨h2,hk⟩,by(try dsimp only);omega,?_⟩
  refine⟨rfl,?_,?_⟩<;>repeat' (first|exact trivial|exact rfl|refine and_rfl ?_|refine and_val hw ?_|refine and_two ?_ ?_)
 ·have h3:exprK l[j].kind=false:=by simpa using h3
  rw[h3,Bool.false_and] at hk
  rw[←hk]
  (conv=>whnf)<;>rfl
theorem x_rparts3 (l:List Nd) (s:Bs) (v:Int) (ks:List Bs) (js:List Int) (_hln:l.length≤8796093022207) (_hjs:js.length≤17592186044415) (hkid:∀k∈js,∃j:Nat,k=((j:Nat):Int)∧j<l.length):DCalls Tryz.prog 72 [.sl true 5 (l.map ndD),Nd.V ⟨3,s,v,ks,js⟩] (boo (partsB l ⟨3,s,v,ks,js⟩)):=by
 have hjl:(js.map intD).length=js.length:=List.length_map _
 have e:partsB l ⟨3,s,v,ks,js⟩=(countB 3 js.length&&fitsL l 3 0 js):=rfl
 rw[e]
 obtain⟨F,hF⟩:∃F:Nat→List Int→Bool,F=fitsL l 3:=⟨_,rfl⟩
 rw[←hF]
 cases hc:countB 3 js.length with
 |false=>
  simp[countB] at hc
  refine sx Tryz.func72 (by kernel_rfl) ?_
  repeat((conv=>whnf);first|refine known true rfl ?_|refine known false rfl ?_|refine known true (by simp[hc];done) ?_|refine known true (by simp;omega) ?_)
  (conv=>whnf)<;>rfl
 |true=>
 rw[Bool.true_and]
 have hc:js.length=0:=by simp[countB] at hc;simp[hc]
 have hcb:(((js.map intD).length:Int) !=0)=false:=by rw[hjl,hc];rfl
 refine sx Tryz.func72 (by kernel_rfl) ?_
 repeat((conv=>whnf);first|refine known true rfl ?_|refine known false rfl ?_|refine known false hcb ?_)
 conv=>whnf
 refine⟨[],Nat,fun m=>[(7,int m)],fun _=>[],fun m=>m≤js.length∧F m (js.drop m)=F 0 js,fun m=>js.length - m,0,⟨Nat.zero_le _,rfl⟩,?_,?_⟩
 ·refine⟨rfl,?_,?_⟩<;>repeat' (first|exact trivial|exact rfl|refine and_rfl ?_|refine and_two ?_ ?_)
 rintro m ⟨hm,hk⟩
 conv=>whnf
 rintro(_|_) h2
 ·have h2:js.length≤m:=by simp at h2;omega
  rw[List.drop_eq_nil_of_le h2] at hk
  rw[←hk,hF]
  (conv=>whnf)<;>rfl
 have h2:m<js.length:=by simp at h2;omega
 have hw:IntKind.i64.wrap (((m:Nat):Int)+1)=((m+1:Nat):Int):=wrap_succ (by omega)
 obtain⟨j,hj1,hj2⟩:=hkid _ (List.getElem_mem h2)
 have hgj:(js.map intD)[((m:Nat):Int).toNat]?=some (intD ((j:Nat):Int)):=by rw[←hj1];exact get_map intD h2
 have hgn:(l.map ndD)[((j:Nat):Int).toNat]?=some (ndD l[j]):=get_map ndD hj2
 have hka:kindAt l js[m]=l[j].kind:=by unfold kindAt;rw[hj1,Int.toNat_natCast,List.getElem?_eq_getElem hj2];rfl
 rw[List.drop_eq_getElem_cons h2,hF] at hk
 simp only[fitsL] at hk
 rw[hka,←hF] at hk
 conv=>whnf
 refine⟨Int.natCast_nonneg m,_,hgj,?_⟩
 conv=>whnf
 refine⟨Int.natCast_nonneg j,_,hgn,?_⟩
 repeat((conv=>whnf);first|refine known true rfl ?_|refine known false rfl ?_)
 simp only[fitsB] at hk
 rw[if_neg (by decide),if_neg (by simp)] at hk
 refine⟨_,x_rexpression l[j],?_⟩
 conv=>whnf
 rintro(_|_) h3
 ·have h3:exprK l[j].kind=true:=by simpa using h3
  rw[h3,Bool.true_and] at hk
  conv=>whnf
  refine⟨m+1,⟨h2,hk⟩,by(try dsimp only);omega,?_⟩
  refine⟨rfl,?_,?_⟩<;>repeat' (first|exact trivial|exact rfl|refine and_rfl ?_|refine and_val hw ?_|refine and_two ?_ ?_)
 ·have h3:exprK l[j].kind=false:=by simpa using h3
  rw[h3,Bool.false_and] at hk
  rw[←hk]
  (conv=>whnf)<;>rfl
theorem x_rparts4 (l:List Nd) (s:Bs) (v:Int) (ks:List Bs) (js:List Int) (_hln:l.length≤8796093022207) (_hjs:js.length≤17592186044415) (hkid:∀k∈js,∃j:Nat,k=((j:Nat):Int)∧j<l.length):DCalls Tryz.prog 72 [.sl true 5 (l.map ndD),Nd.V ⟨4,s,v,ks,js⟩] (boo (partsB l ⟨4,s,v,ks,js⟩)):=by
 have hjl:(js.map intD).length=js.length:=List.length_map _
 have e:partsB l ⟨4,s,v,ks,js⟩=(countB 4 js.length&&fitsL l 4 0 js):=rfl
 rw[e]
 obtain⟨F,hF⟩:∃F:Nat→List Int→Bool,F=fitsL l 4:=⟨_,rfl⟩
 rw[←hF]
 cases hc:countB 4 js.length with
 |false=>
  simp[countB] at hc
  refine sx Tryz.func72 (by kernel_rfl) ?_
  repeat((conv=>whnf);first|refine known true rfl ?_|refine known false rfl ?_|refine known true (by simp[hc];done) ?_|refine known true (by simp;omega) ?_)
  (conv=>whnf)<;>rfl
 |true=>
 rw[Bool.true_and]
 have hc:js.length=0:=by simp[countB] at hc;simp[hc]
 have hcb:(((js.map intD).length:Int) !=0)=false:=by rw[hjl,hc];rfl
 refine sx Tryz.func72 (by kernel_rfl) ?_
 repeat((conv=>whnf);first|refine known true rfl ?_|refine known false rfl ?_|refine known false hcb ?_)
 conv=>whnf
 refine⟨[],Nat,fun m=>[(7,int m)],fun _=>[],fun m=>m≤js.length∧F m (js.drop m)=F 0 js,fun m=>js.length - m,0,⟨Nat.zero_le _,rfl⟩,?_,?_⟩
 ·refine⟨rfl,?_,?_⟩<;>repeat' (first|exact trivial|exact rfl|refine and_rfl ?_|refine and_two ?_ ?_)
 rintro m ⟨hm,hk⟩
 conv=>whnf
 rintro(_|_) h2
 ·have h2:js.length≤m:=by simp at h2;omega
  rw[List.drop_eq_nil_of_le h2] at hk
  rw[←hk,hF]
  (conv=>whnf)<;>rfl
 have h2:m<js.length:=by simp at h2;omega
 have hw:IntKind.i64.wrap (((m:Nat):Int)+1)=((m+1:Nat):Int):=wrap_succ (by omega)
 obtain⟨j,hj1,hj2⟩:=hkid _ (List.getElem_mem h2)
 have hgj:(js.map intD)[((m:Nat):Int).toNat]?=some (intD ((j:Nat):Int)):=by rw[←hj1];exact get_map intD h2
 have hgn:(l.map ndD)[((j:Nat):Int).toNat]?=some (ndD l[j]):=get_map ndD hj2
 have hka:kindAt l js[m]=l[j].kind:=by unfold kindAt;rw[hj1,Int.toNat_natCast,List.getElem?_eq_getElem hj2];rfl
 rw[List.drop_eq_getElem_cons h2,hF] at hk
 simp only[fitsL] at hk
 rw[hka,←hF] at hk
 conv=>whnf
 refine⟨Int.natCast_nonneg m,_,hgj,?_⟩
 conv=>whnf
 refine⟨Int.natCast_nonneg j,_,hgn,?_⟩
 repeat((conv=>whnf);first|refine known true rfl ?_|refine known false rfl ?_)
 simp only[fitsB] at hk
 rw[if_neg (by decide),if_neg (by simp)] at hk
 refine⟨_,x_rexpression l[j],?_⟩
 conv=>whnf
 rintro(_|_) h3
 ·have h3:exprK l[j].kind=true:=by simpa using h3
  rw[h3,Bool.true_and] at hk
  conv=>whnf
  refine⟨m+1,⟨h2,hk⟩,by(try dsimp only);omega,?_⟩
  refine⟨rfl,?_,?_⟩<;>repeat' (first|exact trivial|exact rfl|refine and_rfl ?_|refine and_val hw ?_|refine and_two ?_ ?_)
 ·have h3:exprK l[j].kind=false:=by simpa using h3
  rw[h3,Bool.false_and] at hk
  rw[←hk]
  (conv=>whnf)<;>rfl
theorem x_rparts5 (l:List Nd) (s:Bs) (v:Int) (ks:List Bs) (js:List Int) (_hln:l.length≤8796093022207) (_hjs:js.length≤17592186044415) (hkid:∀k∈js,∃j:Nat,k=((j:Nat):Int)∧j<l.length):DCalls Tryz.prog 72 [.sl true 5 (l.map ndD),Nd.V ⟨5,s,v,ks,js⟩] (boo (partsB l ⟨5,s,v,ks,js⟩)):=by
 have hjl:(js.map intD).length=js.length:=List.length_map _
 have e:partsB l ⟨5,s,v,ks,js⟩=(countB 5 js.length&&fitsL l 5 0 js):=rfl
 rw[e]
 obtain⟨F,hF⟩:∃F:Nat→List Int→Bool,F=fitsL l 5:=⟨_,rfl⟩
 rw[←hF]
 cases hc:countB 5 js.length with
 |false=>
  simp[countB] at hc
  refine sx Tryz.func72 (by kernel_rfl) ?_
  repeat((conv=>whnf);first|refine known true rfl ?_|refine known false rfl ?_|refine known true (by simp[hc];done) ?_|refine known true (by simp;omega) ?_)
  (conv=>whnf)<;>rfl
 |true=>
 rw[Bool.true_and]
 have hc:js.length=0:=by simp[countB] at hc;simp[hc]
 have hcb:(((js.map intD).length:Int) !=0)=false:=by rw[hjl,hc];rfl
 refine sx Tryz.func72 (by kernel_rfl) ?_
 repeat((conv=>whnf);first|refine known true rfl ?_|refine known false rfl ?_|refine known false hcb ?_)
 conv=>whnf
 refine⟨[],Nat,fun m=>[(7,int m)],fun _=>[],fun m=>m≤js.length∧F m (js.drop m)=F 0 js,fun m=>js.length - m,0,⟨Nat.zero_le _,rfl⟩,?_,?_⟩
 ·refine⟨rfl,?_,?_⟩<;>repeat' (first|exact trivial|exact rfl|refine and_rfl ?_|refine and_two ?_ ?_)
 rintro m ⟨hm,hk⟩
 conv=>whnf
 rintro(_|_) h2
 ·have h2:js.length≤m:=by simp at h2;omega
  rw[List.drop_eq_nil_of_le h2] at hk
  rw[←hk,hF]
  (conv=>whnf)<;>rfl
 have h2:m<js.length:=by simp at h2;omega
 have hw:IntKind.i64.wrap (((m:Nat):Int)+1)=((m+1:Nat):Int):=wrap_succ (by omega)
 obtain⟨j,hj1,hj2⟩:=hkid _ (List.getElem_mem h2)
 have hgj:(js.map intD)[((m:Nat):Int).toNat]?=some (intD ((j:Nat):Int)):=by rw[←hj1];exact get_map intD h2
 have hgn:(l.map ndD)[((j:Nat):Int).toNat]?=some (ndD l[j]):=get_map ndD hj2
 have hka:kindAt l js[m]=l[j].kind:=by unfold kindAt;rw[hj1,Int.toNat_natCast,List.getElem?_eq_getElem hj2];rfl
 rw[List.drop_eq_getElem_cons h2,hF] at hk
 simp only[fitsL] at hk
 rw[hka,←hF] at hk
 conv=>whnf
 refine⟨Int.natCast_nonneg m,_,hgj,?_⟩
 conv=>whnf
 refine⟨Int.natCast_nonneg j,_,hgn,?_⟩
 repeat((conv=>whnf);first|refine known true rfl ?_|refine known false rfl ?_)
 simp only[fitsB] at hk
 rw[if_neg (by decide),if_neg (by simp)] at hk
 refine⟨_,x_rexpression l[j],?_⟩
 conv=>whnf
 rintro(_|_) h3
 ·have h3:exprK l[j].kind=true:=by simpa using h3
  rw[h3,Bool.true_and] at hk
  conv=>whnf
  refine⟨m+1,⟨h2,hk⟩,by(try dsimp only);omega,?_⟩
  refine⟨rfl,?_,?_⟩<;>repeat' (first|exact trivial|exact rfl|refine and_rfl ?_|refine and_val hw ?_|refine and_two ?_ ?_)
 ·have h3:exprK l[j].kind=false:=by simpa using h3
  rw[h3,Bool.false_and] at hk
  rw[←hk]
  (conv=>whnf)<;>rfl
theorem x_rparts6 (l:List Nd) (s:Bs) (v:Int) (ks:List Bs) (js:List Int) (_hln:l.length≤8796093022207) (hjs:js.length≤17592186044415) (hkid:∀k∈js,∃j:Nat,k=((j:Nat):Int)∧j<l.length):DCalls Tryz.prog 72 [.sl true 5 (l.map ndD),Nd.V ⟨6,s,v,ks,js⟩] (boo (partsB l ⟨6,s,v,ks,js⟩)):=by
 have hjl:(js.map intD).length=js.length:=List.length_map _
 have e:partsB l ⟨6,s,v,ks,js⟩=(countB 6 js.length&&fitsL l 6 0 js):=rfl
 rw[e]
 obtain⟨F,hF⟩:∃F:Nat→List Int→Bool,F=fitsL l 6:=⟨_,rfl⟩
 rw[←hF]
 rw[show countB 6 js.length=true by simp[countB],Bool.true_and]
 refine sx Tryz.func72 (by kernel_rfl) ?_
 repeat((conv=>whnf);first|refine known true rfl ?_|refine known false rfl ?_)
 conv=>whnf
 refine⟨[],Nat,fun m=>[(7,int m)],fun _=>[],fun m=>m≤js.length∧F m (js.drop m)=F 0 js,fun m=>js.length - m,0,⟨Nat.zero_le _,rfl⟩,?_,?_⟩
 ·refine⟨rfl,?_,?_⟩<;>repeat' (first|exact trivial|exact rfl|refine and_rfl ?_|refine and_two ?_ ?_)
 rintro m ⟨hm,hk⟩
 conv=>whnf
 rintro(_|_) h2
 ·have h2:js.length≤m:=by simp at h2;omega
  rw[List.drop_eq_nil_of_le h2] at hk
  rw[←hk,hF]
  (conv=>whnf)<;>rfl
 have h2:m<js.length:=by simp at h2;omega
 have hw:IntKind.i64.wrap (((m:Nat):Int)+1)=((m+1:Nat):Int):=wrap_succ (by omega)
 obtain⟨j,hj1,hj2⟩:=hkid _ (List.getElem_mem h2)
 have hgj:(js.map intD)[((m:Nat):Int).toNat]?=some (intD ((j:Nat):Int)):=by rw[←hj1];exact get_map intD h2
 have hgn:(l.map ndD)[((j:Nat):Int).toNat]?=some (ndD l[j]):=get_map ndD hj2
 have hka:kindAt l js[m]=l[j].kind:=by unfold kindAt;rw[hj1,Int.toNat_natCast,List.getElem?_eq_getElem hj2];rfl
 rw[List.drop_eq_getElem_cons h2,hF] at hk
 simp only[fitsL] at hk
 rw[hka,←hF] at hk
 conv=>whnf
 refine⟨Int.natCast_nonneg m,_,hgj,?_⟩
 conv=>whnf
 refine⟨Int.natCast_nonneg j,_,hgn,?_⟩
 repeat((conv=>whnf);first|refine known true rfl ?_|refine known false rfl ?_)
 simp only[fitsB] at hk
 rw[if_neg (by decide),if_neg (by simp)] at hk
 refine⟨_,x_rexpression l[j],?_⟩
 conv=>whnf
 rintro(_|_) h3
 ·have h3:exprK l[j].kind=true:=by simpa using h3
  rw[h3,Bool.true_and] at hk
  conv=>whnf
  refine⟨m+1,⟨h2,hk⟩,by(try dsimp only);omega,?_⟩
  refine⟨rfl,?_,?_⟩<;>repeat' (first|exact trivial|exact rfl|refine and_rfl ?_|refine and_val hw ?_|refine and_two ?_ ?_)
 ·have h3:exprK l[j].kind=false:=by simpa using h3
  rw[h3,Bool.false_and] at hk
  rw[←hk]
  (conv=>whnf)<;>rfl
theorem x_rparts7 (l:List Nd) (s:Bs) (v:Int) (ks:List Bs) (js:List Int) (_hln:l.length≤8796093022207) (hjs:js.length≤17592186044415) (hkid:∀k∈js,∃j:Nat,k=((j:Nat):Int)∧j<l.length):DCalls Tryz.prog 72 [.sl true 5 (l.map ndD),Nd.V ⟨7,s,v,ks,js⟩] (boo (partsB l ⟨7,s,v,ks,js⟩)):=by
 have hjl:(js.map intD).length=js.length:=List.length_map _
 have e:partsB l ⟨7,s,v,ks,js⟩=(countB 7 js.length&&fitsL l 7 0 js):=rfl
 rw[e]
 obtain⟨F,hF⟩:∃F:Nat→List Int→Bool,F=fitsL l 7:=⟨_,rfl⟩
 rw[←hF]
 rw[show countB 7 js.length=true by simp[countB],Bool.true_and]
 refine sx Tryz.func72 (by kernel_rfl) ?_
 repeat((conv=>whnf);first|refine known true rfl ?_|refine known false rfl ?_)
 conv=>whnf
 refine⟨[],Nat,fun m=>[(7,int m)],fun _=>[],fun m=>m≤js.length∧F m (js.drop m)=F 0 js,fun m=>js.length - m,0,⟨Nat.zero_le _,rfl⟩,?_,?_⟩
 ·refine⟨rfl,?_,?_⟩<;>repeat' (first|exact trivial|exact rfl|refine and_rfl ?_|refine and_two ?_ ?_)
 rintro m ⟨hm,hk⟩
 conv=>whnf
 rintro(_|_) h2
 ·have h2:js.length≤m:=by simp at h2;omega
  rw[List.drop_eq_nil_of_le h2] at hk
  rw[←hk,hF]
  (conv=>whnf)<;>rfl
 have h2:m<js.length:=by simp at h2;omega
 have hw:IntKind.i64.wrap (((m:Nat):Int)+1)=((m+1:Nat):Int):=wrap_succ (by omega)
 obtain⟨j,hj1,hj2⟩:=hkid _ (List.getElem_mem h2)
 have hgj:(js.map intD)[((m:Nat):Int).toNat]?=some (intD ((j:Nat):Int)):=by rw[←hj1];exact get_map intD h2
 have hgn:(l.map ndD)[((j:Nat):Int).toNat]?=some (ndD l[j]):=get_map ndD hj2
 have hka:kindAt l js[m]=l[j].kind:=by unfold kindAt;rw[hj1,Int.toNat_natCast,List.getElem?_eq_getElem hj2];rfl
 rw[List.drop_eq_getElem_cons h2,hF] at hk
 simp only[fitsL] at hk
 rw[hka,←hF] at hk
 conv=>whnf
 refine⟨Int.natCast_nonneg m,_,hgj,?_⟩
 conv=>whnf
 refine⟨Int.natCast_nonneg j,_,hgn,?_⟩
 repeat((conv=>whnf);first|refine known true rfl ?_|refine known false rfl ?_)
 simp only[fitsB] at hk
 rw[if_neg (by decide),if_neg (by simp)] at hk
 refine⟨_,x_rexpression l[j],?_⟩
 conv=>whnf
 rintro(_|_) h3
 ·have h3:exprK l[j].kind=true:=by simpa using h3
  rw[h3,Bool.true_and] at hk
  conv=>whnf
  refine⟨m+1,⟨h2,hk⟩,by(try dsimp only);omega,?_⟩
  refine⟨rfl,?_,?_⟩<;>repeat' (first|exact trivial|exact rfl|refine and_rfl ?_|refine and_val hw ?_|refine and_two ?_ ?_)
 ·have h3:exprK l[j].kind=false:=by simpa using h3
  rw[h3,Bool.false_and] at hk
  rw[←hk]
  (conv=>whnf)<;>rfl
end Go.Proofs.YtglndfgmlminpaaGreatDoor
