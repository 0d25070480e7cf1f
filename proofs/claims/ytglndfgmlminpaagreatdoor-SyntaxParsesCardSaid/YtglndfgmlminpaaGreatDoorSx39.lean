/- Texts joined by pack.py: XSyWMb XSyWMc XSyWMd -/
import Derived.Test.YtglndfgmlminpaaGreatDoorSx38
set_option maxHeartbeats 16000000
set_option maxRecDepth 100000
namespace Go.Proofs.YtglndfgmlminpaaGreatDoor
open Go.RowKit
theorem x_rparts8 (l:List Nd) (s:Bs) (v:Int) (ks:List Bs) (js:List Int) (_hln:l.length≤8796093022207) (_hjs:js.length≤17592186044415) (hkid:∀k∈js,∃j:Nat,k=((j:Nat):Int)∧j<l.length):DCalls Tryz.prog 72 [.sl true 5 (l.map ndD),Nd.V ⟨8,s,v,ks,js⟩] (boo (partsB l ⟨8,s,v,ks,js⟩)):=by
 have hjl:(js.map intD).length=js.length:=List.length_map _
 have e:partsB l ⟨8,s,v,ks,js⟩=(countB 8 js.length&&fitsL l 8 0 js):=rfl
 rw[e]
 obtain⟨F,hF⟩:∃F:Nat→List Int→Bool,F=fitsL l 8:=⟨_,rfl⟩
 rw[←hF]
 cases hc:countB 8 js.length with
 |false=>
  simp[countB] at hc
  have hcF1:(((js.map intD).length:Int) !=1)=true:=by rw[hjl,bne_iff_ne];have hc':=hc;(try simp at hc');omega
  refine sx Tryz.func72 (by kernel_rfl) ?_
  repeat((conv=>whnf);first|refine known true rfl ?_|refine known false rfl ?_|refine known true hcF1 ?_)
  (conv=>whnf)<;>rfl
 |true=>
 rw[Bool.true_and]
 have hc:js.length=1:=by simp[countB] at hc;simp[hc]
 have hcb:(((js.map intD).length:Int) !=1)=false:=by rw[hjl,hc];rfl
 refine sx Tryz.func72 (by kernel_rfl) ?_
 repeat((conv=>whnf);first|refine known true rfl ?_|refine known false rfl ?_|refine known false hcb ?_)
 conv=>whnf
 refine⟨[],Nat,fun m=>[(7,int m)],fun _=>[],fun m=>m≤js.length∧F m (js.drop m)=F 0 js,fun m=>js.length - m,0,⟨Nat.zero_le _,rfl⟩,?_,?_⟩
 ·refine⟨rfl,?_,?_⟩<;>repeat' (first|exact trivial|exact rfl|refine and_rfl ?_|refine and_two ?_ ?_)
 rintro m ⟨hm,hk⟩
 conv=>whnf
 rintro(_|_) h2
 ·have h2:js.length≤m:=by simp at h2;omega
  rw[List.drop_eq_nil_of_le h2] at hk
  rw[←hk,hF]
  (conv=>whnf)<;>rfl
 have h2:m<js.length:=by simp at h2;omega
 have hw:IntKind.i64.wrap (((m:Nat):Int)+1)=((m+1:Nat):Int):=wrap_succ (by omega)
 obtain⟨j,hj1,hj2⟩:=hkid _ (List.getElem_mem h2)
 have hgj:(js.map intD)[((m:Nat):Int).toNat]?=some (intD ((j:Nat):Int)):=by rw[←hj1];exact get_map intD h2
 have hgn:(l.map ndD)[((j:Nat):Int).toNat]?=some (ndD l[j]):=get_map ndD hj2
 have hka:kindAt l js[m]=l[j].kind:=by unfold kindAt;rw[hj1,Int.toNat_natCast,List.getElem?_eq_getElem hj2];rfl
 rw[List.drop_eq_getElem_cons h2,hF] at hk
 simp only[fitsL] at hk
 rw[hka,←hF] at hk
 conv=>whnf
 refine⟨Int.natCast_nonneg m,_,hgj,?_⟩
 conv=>whnf
 refine⟨Int.natCast_nonneg j,_,hgn,?_⟩
 repeat((conv=>whnf);first|refine known true rfl ?_|refine known false rfl ?_)
 simp only[fitsB] at hk
 rw[if_neg (by decide),if_neg (by simp)] at hk
 refine⟨_,x_rexpression l[j],?_⟩
 conv=>whnf
 rintro(_|_) h3
 ·have h3:exprK l[j].kind=true:=by simpa using h3
  rw[h3,Bool.true_and] at hk
  conv=>whnf
  refine⟨m+1,⟨h2,hk⟩,by(try dsimp only);omega,?_⟩
  refine⟨rfl,?_,?_⟩<;>repeat' (first|exact trivial|exact rfl|refine and_rfl ?_|refine and_val hw ?_|refine and_two ?_ ?_)
 ·have h3:exprK l[j].kind=false:=by simpa using h3
  rw[h3,Bool.false_and] at hk
  rw[←hk]
  (conv=>whnf)<;>rfl
theorem x_rparts9 (l:List Nd) (s:Bs) (v:Int) (ks:List Bs) (js:List Int) (_hln:l.length≤8796093022207) (_hjs:js.length≤17592186044415) (hkid:∀k∈js,∃j:Nat,k=((j:Nat):Int)∧j<l.length):DCalls Tryz.prog 72 [.sl true 5 (l.map ndD),Nd.V ⟨9,s,v,ks,js⟩] (boo (partsB l ⟨9,s,v,ks,js⟩)):=by
 have hjl:(js.map intD).length=js.length:=List.length_map _
 have e:partsB l ⟨9,s,v,ks,js⟩=(countB 9 js.length&&fitsL l 9 0 js):=rfl
 rw[e]
 obtain⟨F,hF⟩:∃F:Nat→List Int→Bool,F=fitsL l 9:=⟨_,rfl⟩
 rw[←hF]
 cases hc:countB 9 js.length with
 |false=>
  simp[countB] at hc
  have hcF2:(((js.map intD).length:Int) !=2)=true:=by rw[hjl,bne_iff_ne];have hc':=hc;(try simp at hc');omega
  refine sx Tryz.func72 (by kernel_rfl) ?_
  repeat((conv=>whnf);first|refine known true rfl ?_|refine known false rfl ?_|refine known true hcF2 ?_)
  (conv=>whnf)<;>rfl
 |true=>
 rw[Bool.true_and]
 have hc:js.length=2:=by simp[countB] at hc;simp[hc]
 have hcb:(((js.map intD).length:Int) !=2)=false:=by rw[hjl,hc];rfl
 refine sx Tryz.func72 (by kernel_rfl) ?_
 repeat((conv=>whnf);first|refine known true rfl ?_|refine known false rfl ?_|refine known false hcb ?_)
 conv=>whnf
 refine⟨[],Nat,fun m=>[(7,int m)],fun _=>[],fun m=>m≤js.length∧F m (js.drop m)=F 0 js,fun m=>js.length - m,0,⟨Nat.zero_le _,rfl⟩,?_,?_⟩
 ·refine⟨rfl,?_,?_⟩<;>repeat' (first|exact trivial|exact rfl|refine and_rfl ?_|refine and_two ?_ ?_)
 rintro m ⟨hm,hk⟩
 conv=>whnf
 rintro(_|_) h2
 ·have h2:js.length≤m:=by simp at h2;omega
  rw[List.drop_eq_nil_of_le h2] at hk
  rw[←hk,hF]
  (conv=>whnf)<;>rfl
 have h2:m<js.length:=by simp at h2;omega
 have hw:IntKind.i64.wrap (((m:Nat):Int)+1)=((m+1:Nat):Int):=wrap_succ (by omega)
 obtain⟨j,hj1,hj2⟩:=hkid _ (List.getElem_mem h2)
 have hgj:(js.map intD)[((m:Nat):Int).toNat]?=some (intD ((j:Nat):Int)):=by rw[←hj1];exact get_map intD h2
 have hgn:(l.map ndD)[((j:Nat):Int).toNat]?=some (ndD l[j]):=get_map ndD hj2
 have hka:kindAt l js[m]=l[j].kind:=by unfold kindAt;rw[hj1,Int.toNat_natCast,List.getElem?_eq_getElem hj2];rfl
 rw[List.drop_eq_getElem_cons h2,hF] at hk
 simp only[fitsL] at hk
 rw[hka,←hF] at hk
 conv=>whnf
 refine⟨Int.natCast_nonneg m,_,hgj,?_⟩
 conv=>whnf
 refine⟨Int.natCast_nonneg j,_,hgn,?_⟩
 repeat((conv=>whnf);first|refine known true rfl ?_|refine known false rfl ?_)
 simp only[fitsB] at hk
 rw[if_neg (by decide),if_neg (by simp)] at hk
 refine⟨_,x_rexpression l[j],?_⟩
 conv=>whnf
 rintro(_|_) h3
 ·have h3:exprK l[j].kind=true:=by simpa using h3
  rw[h3,Bool.true_and] at hk
  conv=>whnf
  refine⟨m+1,⟨h2,hk⟩,by(try dsimp only);omega,?_⟩
  refine⟨rfl,?_,?_⟩<;>repeat' (first|exact trivial|exact rfl|refine and_rfl ?_|refine and_val hw ?_|refine and_two ?_ ?_)
 ·have h3:exprK l[j].kind=false:=by simpa using h3
  rw[h3,Bool.false_and] at hk
  rw[←hk]
  (conv=>whnf)<;>rfl
theorem x_rparts10 (l:List Nd) (s:Bs) (v:Int) (ks:List Bs) (js:List Int) (_hln:l.length≤8796093022207) (_hjs:js.length≤17592186044415) (hkid:∀k∈js,∃j:Nat,k=((j:Nat):Int)∧j<l.length):DCalls Tryz.prog 72 [.sl true 5 (l.map ndD),Nd.V ⟨10,s,v,ks,js⟩] (boo (partsB l ⟨10,s,v,ks,js⟩)):=by
 have hjl:(js.map intD).length=js.length:=List.length_map _
 have e:partsB l ⟨10,s,v,ks,js⟩=(countB 10 js.length&&fitsL l 10 0 js):=rfl
 rw[e]
 obtain⟨F,hF⟩:∃F:Nat→List Int→Bool,F=fitsL l 10:=⟨_,rfl⟩
 rw[←hF]
 cases hc:countB 10 js.length with
 |false=>
  simp[countB] at hc
  have hcF2:(((js.map intD).length:Int) !=2)=true:=by rw[hjl,bne_iff_ne];have hc':=hc;(try simp at hc');omega
  refine sx Tryz.func72 (by kernel_rfl) ?_
  repeat((conv=>whnf);first|refine known true rfl ?_|refine known false rfl ?_|refine known true hcF2 ?_)
  (conv=>whnf)<;>rfl
 |true=>
 rw[Bool.true_and]
 have hc:js.length=2:=by simp[countB] at hc;simp[hc]
 have hcb:(((js.map intD).length:Int) !=2)=false:=by rw[hjl,hc];rfl
 refine sx Tryz.func72 (by kernel_rfl) ?_
 repeat((conv=>whnf);first|refine known true rfl ?_|refine known false rfl ?_|refine known false hcb ?_)
 conv=>whnf
 refine⟨[],Nat,fun m=>[(7,int m)],fun _=>[],fun m=>m≤js.length∧F m (js.drop m)=F 0 js,fun m=>js.length - m,0,⟨Nat.zero_le _,rfl⟩,?_,?_⟩
 ·refine⟨rfl,?_,?_⟩<;>repeat' (first|exact trivial|exact rfl|refine and_rfl ?_|refine and_two ?_ ?_)
 rintro m ⟨hm,hk⟩
 conv=>whnf
 rintro(_|_) h2
 ·have h2:js.length≤m:=by simp at h2;omega
  rw[List.drop_eq_nil_of_le h2] at hk
  rw[←hk,hF]
  (conv=>whnf)<;>rfl
 have h2:m<js.length:=by simp at h2;omega
 have hw:IntKind.i64.wrap (((m:Nat):Int)+1)=((m+1:Nat):Int):=wrap_succ (by omega)
 obtain⟨j,hj1,hj2⟩:=hkid _ (List.getElem_mem h2)
 have hgj:(js.map intD)[((m:Nat):Int).toNat]?=some (intD ((j:Nat):Int)):=by rw[←hj1];exact get_map intD h2
 have hgn:(l.map ndD)[((j:Nat):Int).toNat]?=some (ndD l[j]):=get_map ndD hj2
 have hka:kindAt l js[m]=l[j].kind:=by unfold kindAt;rw[hj1,Int.toNat_natCast,List.getElem?_eq_getElem hj2];rfl
 rw[List.drop_eq_getElem_cons h2,hF] at hk
 simp only[fitsL] at hk
 rw[hka,←hF] at hk
 conv=>whnf
 refine⟨Int.natCast_nonneg m,_,hgj,?_⟩
 conv=>whnf
 refine⟨Int.natCast_nonneg j,_,hgn,?_⟩
 repeat((conv=>whnf);first|refine known true rfl ?_|refine known false rfl ?_)
 simp only[fitsB] at hk
 rw[if_neg (by decide),if_neg (by simp)] at hk
 refine⟨_,x_rexpression l[j],?_⟩
 conv=>whnf
 rintro(_|_) h3
 ·have h3:exprK l[j].kind=true:=by simpa using h3
  rw[h3,Bool.true_and] at hk
  conv=>whnf
  refine⟨m+1,⟨h2,hk⟩,by(try dsimp only);omega,?_⟩
  refine⟨rfl,?_,?_⟩<;>repeat' (first|exact trivial|exact rfl|refine and_rfl ?_|refine and_val hw ?_|refine and_two ?_ ?_)
 ·have h3:exprK l[j].kind=false:=by simpa using h3
  rw[h3,Bool.false_and] at hk
  rw[←hk]
  (conv=>whnf)<;>rfl
theorem x_rparts11 (l:List Nd) (s:Bs) (v:Int) (ks:List Bs) (js:List Int) (_hln:l.length≤8796093022207) (hjs:js.length≤17592186044415) (hkid:∀k∈js,∃j:Nat,k=((j:Nat):Int)∧j<l.length):DCalls Tryz.prog 72 [.sl true 5 (l.map ndD),Nd.V ⟨11,s,v,ks,js⟩] (boo (partsB l ⟨11,s,v,ks,js⟩)):=by
 have hjl:(js.map intD).length=js.length:=List.length_map _
 have e:partsB l ⟨11,s,v,ks,js⟩=(countB 11 js.length&&fitsL l 11 0 js):=rfl
 rw[e]
 obtain⟨F,hF⟩:∃F:Nat→List Int→Bool,F=fitsL l 11:=⟨_,rfl⟩
 rw[←hF]
 rw[show countB 11 js.length=true by simp[countB],Bool.true_and]
 refine sx Tryz.func72 (by kernel_rfl) ?_
 repeat((conv=>whnf);first|refine known true rfl ?_|refine known false rfl ?_)
 conv=>whnf
 refine⟨[],Nat,fun m=>[(7,int m)],fun _=>[],fun m=>m≤js.length∧F m (js.drop m)=F 0 js,fun m=>js.length - m,0,⟨Nat.zero_le _,rfl⟩,?_,?_⟩
 ·refine⟨rfl,?_,?_⟩<;>repeat' (first|exact trivial|exact rfl|refine and_rfl ?_|refine and_two ?_ ?_)
 rintro m ⟨hm,hk⟩
 conv=>whnf
 rintro(_|_) h2
 ·have h2:js.length≤m:=by simp at h2;omega
  rw[List.drop_eq_nil_of_le h2] at hk
  rw[←hk,hF]
  (conv=>whnf)<;>rfl
 have h2:m<js.length:=by simp at h2;omega
 have hw:IntKind.i64.wrap (((m:Nat):Int)+1)=((m+1:Nat):Int):=wrap_succ (by omega)
 obtain⟨j,hj1,hj2⟩:=hkid _ (List.getElem_mem h2)
 have hgj:(js.map intD)[((m:Nat):Int).toNat]?=some (intD ((j:Nat):Int)):=by rw[←hj1];exact get_map intD h2
 have hgn:(l.map ndD)[((j:Nat):Int).toNat]?=some (ndD l[j]):=get_map ndD hj2
 have hka:kindAt l js[m]=l[j].kind:=by unfold kindAt;rw[hj1,Int.toNat_natCast,List.getElem?_eq_getElem hj2];rfl
 rw[List.drop_eq_getElem_cons h2,hF] at hk
 simp only[fitsL] at hk
 rw[hka,←hF] at hk
 conv=>whnf
 refine⟨Int.natCast_nonneg m,_,hgj,?_⟩
 conv=>whnf
 refine⟨Int.natCast_nonneg j,_,hgn,?_⟩
 repeat((conv=>whnf);first|refine known true rfl ?_|refine known false rfl ?_)
 simp only[fitsB] at hk
 rw[if_neg (by decide),if_neg (by simp)] at hk
 refine⟨_,x_rexpression l[j],?_⟩
 conv=>whnf
 rintro(_|_) h3
 ·have h3:exprK l[j].kind=true:=by simpa using h3
  rw[h3,Bool.true_and] at hk
  conv=>whnf
  refine⟨m+1,⟨h2,hk⟩,by(try dsimp only);omega,?_⟩
  refine⟨rfl,?_,?_⟩<;>repeat' (first|exact trivial|exact rfl|refine and_rfl ?_|refine and_val hw ?_|refine and_two ?_ ?_)
 ·have h3:exprK l[j].kind=false:=by simpa using h3
  rw[h3,Bool.false_and] at hk
  rw[←hk]
  (conv=>whnf)<;>rfl
theorem x_rparts12 (l:List Nd) (s:Bs) (v:Int) (ks:List Bs) (js:List Int) (_hln:l.length≤8796093022207) (hjs:js.length≤17592186044415) (hkid:∀k∈js,∃j:Nat,k=((j:Nat):Int)∧j<l.length):DCalls Tryz.prog 72 [.sl true 5 (l.map ndD),Nd.V ⟨12,s,v,ks,js⟩] (boo (partsB l ⟨12,s,v,ks,js⟩)):=by
 have hjl:(js.map intD).length=js.length:=List.length_map _
 have e:partsB l ⟨12,s,v,ks,js⟩=(countB 12 js.length&&fitsL l 12 0 js):=rfl
 rw[e]
 obtain⟨F,hF⟩:∃F:Nat→List Int→Bool,F=fitsL l 12:=⟨_,rfl⟩
 rw[←hF]
 rw[show countB 12 js.length=true by simp[countB],Bool.true_and]
 refine sx Tryz.func72 (by kernel_rfl) ?_
 repeat((conv=>whnf);first|refine known true rfl ?_|refine known false rfl ?_)
 conv=>whnf
 refine⟨[],Nat,fun m=>[(7,int m)],fun _=>[],fun m=>m≤js.length∧F m (js.drop m)=F 0 js,fun m=>js.length - m,0,⟨Nat.zero_le _,rfl⟩,?_,?_⟩
 ·refine⟨rfl,?_,?_⟩<;>repeat' (first|exact trivial|exact rfl|refine and_rfl ?_|refine and_two ?_ ?_)
 rintro m ⟨hm,hk⟩
 conv=>whnf
 rintro(_|_) h2
 ·have h2:js.length≤m:=by simp at h2;omega
  rw[List.drop_eq_nil_of_le h2] at hk
  rw[←hk,hF]
  (conv=>whnf)<;>rfl
 have h2:m<js.length:=by simp at h2;omega
 have hw:IntKind.i64.wrap (((m:Nat):Int)+1)=((m+1:Nat):Int):=wrap_succ (by omega)
 obtain⟨j,hj1,hj2⟩:=hkid _ (List.getElem_mem h2)
 have hgj:(js.map intD)[((m:Nat):Int).toNat]?=some (intD ((j:Nat):Int)):=by rw[←hj1];exact get_map intD h2
 have hgn:(l.map ndD)[((j:Nat):Int).toNat]?=some (ndD l[j]):=get_map ndD hj2
 have hka:kindAt l js[m]=l[j].kind:=by unfold kindAt;rw[hj1,Int.toNat_natCast,List.getElem?_eq_getElem hj2];rfl
 rw[List.drop_eq_getElem_cons h2,hF] at hk
 simp only[fitsL] at hk
 rw[hka,←hF] at hk
 conv=>whnf
 refine⟨Int.natCast_nonneg m,_,hgj,?_⟩
 conv=>whnf
 refine⟨Int.natCast_nonneg j,_,hgn,?_⟩
 repeat((conv=>whnf);first|refine known true rfl ?_|refine known false rfl ?_)
 simp only[fitsB] at hk
 rw[if_neg (by decide),if_neg (by simp)] at hk
 refine⟨_,x_rexpression l[j],?_⟩
 conv=>whnf
 rintro(_|_) h3
 ·have h3:exprK l[j].kind=true:=by simpa using h3
  rw[h3,Bool.true_and] at hk
  conv=>whnf
  refine⟨m+1,⟨h2,hk⟩,by(try dsimp only);omega,?_⟩
  refine⟨rfl,?_,?_⟩<;>repeat' (first|exact trivial|exact rfl|refine and_rfl ?_|refine and_val hw ?_|refine and_two ?_ ?_)
 ·have h3:exprK l[j].kind=false:=by simpa using h3
  rw[h3,Bool.false_and] at hk
  rw[←hk]
  (conv=>whnf)<;>rfl
end Go.Proofs.YtglndfgmlminpaaGreatDoor
namespace Go.Proofs.YtglndfgmlminpaaGreatDoor
open Go.RowKit
theorem x_rparts13 (l:List Nd) (s:Bs) (v:Int) (ks:List Bs) (js:List Int) (_hln:l.length≤8796093022207) (_hjs:js.length≤17592186044415) (hkid:∀k∈js,∃j:Nat,k=((j:Nat):Int)∧j<l.length):DCalls Tryz.prog 72 [.sl true 5 (l.map ndD),Nd.V ⟨13,s,v,ks,js⟩] (boo (partsB l ⟨13,s,v,ks,js⟩)):=by
 have hjl:(js.map intD).length=js.length:=List.length_map _
 have e:partsB l ⟨13,s,v,ks,js⟩=(countB 13 js.length&&fitsL l 13 0 js):=rfl
 rw[e]
 obtain⟨F,hF⟩:∃F:Nat→List Int→Bool,F=fitsL l 13:=⟨_,rfl⟩
 rw[←hF]
 cases hc:countB 13 js.length with
 |false=>
  simp[countB] at hc
  have hcF1:(((js.map intD).length:Int) !=1)=true:=by rw[hjl,bne_iff_ne];have hc':=hc;(try simp at hc');omega
  refine sx Tryz.func72 (by kernel_rfl) ?_
  repeat((conv=>whnf);first|refine known true rfl ?_|refine known false rfl ?_|refine known true hcF1 ?_)
  (conv=>whnf)<;>rfl
 |true=>
 rw[Bool.true_and]
 have hc:js.length=1:=by simp[countB] at hc;simp[hc]
 have hcb:(((js.map intD).length:Int) !=1)=false:=by rw[hjl,hc];rfl
 refine sx Tryz.func72 (by kernel_rfl) ?_
 repeat((conv=>whnf);first|refine known true rfl ?_|refine known false rfl ?_|refine known false hcb ?_)
 conv=>whnf
 refine⟨[],Nat,fun m=>[(7,int m)],fun _=>[],fun m=>m≤js.length∧F m (js.drop m)=F 0 js,fun m=>js.length - m,0,⟨Nat.zero_le _,rfl⟩,?_,?_⟩
 ·refine⟨rfl,?_,?_⟩<;>repeat' (first|exact trivial|exact rfl|refine and_rfl ?_|refine and_two ?_ ?_)
 rintro m ⟨hm,hk⟩
 conv=>whnf
 rintro(_|_) h2
 ·have h2:js.length≤m:=by simp at h2;omega
  rw[List.drop_eq_nil_of_le h2] at hk
  rw[←hk,hF]
  (conv=>whnf)<;>rfl
 have h2:m<js.length:=by simp at h2;omega
 have hw:IntKind.i64.wrap (((m:Nat):Int)+1)=((m+1:Nat):Int):=wrap_succ (by omega)
 obtain⟨j,hj1,hj2⟩:=hkid _ (List.getElem_mem h2)
 have hgj:(js.map intD)[((m:Nat):Int).toNat]?=some (intD ((j:Nat):Int)):=by rw[←hj1];exact get_map intD h2
 have hgn:(l.map ndD)[((j:Nat):Int).toNat]?=some (ndD l[j]):=get_map ndD hj2
 have hka:kindAt l js[m]=l[j].kind:=by unfold kindAt;rw[hj1,Int.toNat_natCast,List.getElem?_eq_getElem hj2];rfl
 rw[List.drop_eq_getElem_cons h2,hF] at hk
 simp only[fitsL] at hk
 rw[hka,←hF] at hk
 conv=>whnf
 refine⟨Int.natCast_nonneg m,_,hgj,?_⟩
 conv=>whnf
 refine⟨Int.natCast_nonneg j,_,hgn,?_⟩
 repeat((conv=>whnf);first|refine known true rfl ?_|refine known false rfl ?_)
 simp only[fitsB] at hk
 rw[if_neg (by decide),if_neg (by simp)] at hk
 refine⟨_,x_rexpression l[j],?_⟩
 conv=>whnf
 rintro(_|_) h3
 ·have h3:exprK l[j].kind=true:=by simpa using h3
  rw[h3,Bool.true_and] at hk
  conv=>whnf
  refine⟨m+1,⟨h2,hk⟩,by(try dsimp only);omega,?_⟩
  refine⟨rfl,?_,?_⟩<;>repeat' (first|exact trivial|exact rfl|refine and_rfl ?_|refine and_val hw ?_|refine and_two ?_ ?_)
 ·have h3:exprK l[j].kind=false:=by simpa using h3
  rw[h3,Bool.false_and] at hk
  rw[←hk]
  (conv=>whnf)<;>rfl
theorem x_rparts14 (l:List Nd) (s:Bs) (v:Int) (ks:List Bs) (js:List Int) (_hln:l.length≤8796093022207) (_hjs:js.length≤17592186044415) (hkid:∀k∈js,∃j:Nat,k=((j:Nat):Int)∧j<l.length):DCalls Tryz.prog 72 [.sl true 5 (l.map ndD),Nd.V ⟨14,s,v,ks,js⟩] (boo (partsB l ⟨14,s,v,ks,js⟩)):=by
 have hjl:(js.map intD).length=js.length:=List.length_map _
 have e:partsB l ⟨14,s,v,ks,js⟩=(countB 14 js.length&&fitsL l 14 0 js):=rfl
 rw[e]
 obtain⟨F,hF⟩:∃F:Nat→List Int→Bool,F=fitsL l 14:=⟨_,rfl⟩
 rw[←hF]
 cases hc:countB 14 js.length with
 |false=>
  simp[countB] at hc
  have hcF1:(((js.map intD).length:Int) !=1)=true:=by rw[hjl,bne_iff_ne];have hc':=hc;(try simp at hc');omega
  refine sx Tryz.func72 (by kernel_rfl) ?_
  repeat((conv=>whnf);first|refine known true rfl ?_|refine known false rfl ?_|refine known true hcF1 ?_)
  (conv=>whnf)<;>rfl
 |true=>
 rw[Bool.true_and]
 have hc:js.length=1:=by simp[countB] at hc;simp[hc]
 have hcb:(((js.map intD).length:Int) !=1)=false:=by rw[hjl,hc];rfl
 refine sx Tryz.func72 (by kernel_rfl) ?_
 repeat((conv=>whnf);first|refine known true rfl ?_|refine known false rfl ?_|refine known false hcb ?_)
 conv=>whnf
 refine⟨[],Nat,fun m=>[(7,int m)],fun _=>[],fun m=>m≤js.length∧F m (js.drop m)=F 0 js,fun m=>js.length - m,0,⟨Nat.zero_le _,rfl⟩,?_,?_⟩
 ·refine⟨rfl,?_,?_⟩<;>repeat' (first|exact trivial|exact rfl|refine and_rfl ?_|refine and_two ?_ ?_)
 rintro m ⟨hm,hk⟩
 conv=>whnf
 rintro(_|_) h2
 ·have h2:js.length≤m:=by simp at h2;omega
  rw[List.drop_eq_nil_of_le h2] at hk
  rw[←hk,hF]
  (conv=>whnf)<;>rfl
 have h2:m<js.length:=by simp at h2;omega
 have hw:IntKind.i64.wrap (((m:Nat):Int)+1)=((m+1:Nat):Int):=wrap_succ (by omega)
 obtain⟨j,hj1,hj2⟩:=hkid _ (List.getElem_mem h2)
 have hgj:(js.map intD)[((m:Nat):Int).toNat]?=some (intD ((j:Nat):Int)):=by rw[←hj1];exact get_map intD h2
 have hgn:(l.map ndD)[((j:Nat):Int).toNat]?=some (ndD l[j]):=get_map ndD hj2
 have hka:kindAt l js[m]=l[j].kind:=by unfold kindAt;rw[hj1,Int.toNat_natCast,List.getElem?_eq_getElem hj2];rfl
 rw[List.drop_eq_getElem_cons h2,hF] at hk
 simp only[fitsL] at hk
 rw[hka,←hF] at hk
 conv=>whnf
 refine⟨Int.natCast_nonneg m,_,hgj,?_⟩
 conv=>whnf
 refine⟨Int.natCast_nonneg j,_,hgn,?_⟩
 repeat((conv=>whnf);first|refine known true rfl ?_|refine known false rfl ?_)
 simp only[fitsB] at hk
 rw[if_neg (by decide),if_neg (by simp)] at hk
 refine⟨_,x_rexpression l[j],?_⟩
 conv=>whnf
 rintro(_|_) h3
 ·have h3:exprK l[j].kind=true:=by simpa using h3
  rw[h3,Bool.true_and] at hk
  conv=>whnf
  refine⟨m+1,⟨h2,hk⟩,by(try dsimp only);omega,?_⟩
  refine⟨rfl,?_,?_⟩<;>repeat' (first|exact trivial|exact rfl|refine and_rfl ?_|refine and_val hw ?_|refine and_two ?_ ?_)
 ·have h3:exprK l[j].kind=false:=by simpa using h3
  rw[h3,Bool.false_and] at hk
  rw[←hk]
  (conv=>whnf)<;>rfl
theorem x_rparts17 (l:List Nd) (s:Bs) (v:Int) (ks:List Bs) (js:List Int) (_hln:l.length≤8796093022207) (_hjs:js.length≤17592186044415) (hkid:∀k∈js,∃j:Nat,k=((j:Nat):Int)∧j<l.length):DCalls Tryz.prog 72 [.sl true 5 (l.map ndD),Nd.V ⟨17,s,v,ks,js⟩] (boo (partsB l ⟨17,s,v,ks,js⟩)):=by
 have hjl:(js.map intD).length=js.length:=List.length_map _
 have e:partsB l ⟨17,s,v,ks,js⟩=(countB 17 js.length&&fitsL l 17 0 js):=rfl
 rw[e]
 obtain⟨F,hF⟩:∃F:Nat→List Int→Bool,F=fitsL l 17:=⟨_,rfl⟩
 rw[←hF]
 cases hc:countB 17 js.length with
 |false=>
  simp[countB] at hc
  have hcF1:(((js.map intD).length:Int) !=1)=true:=by rw[hjl,bne_iff_ne];have hc':=hc;(try simp at hc');omega
  refine sx Tryz.func72 (by kernel_rfl) ?_
  repeat((conv=>whnf);first|refine known true rfl ?_|refine known false rfl ?_|refine known true hcF1 ?_)
  (conv=>whnf)<;>rfl
 |true=>
 rw[Bool.true_and]
 have hc:js.length=1:=by simp[countB] at hc;simp[hc]
 have hcb:(((js.map intD).length:Int) !=1)=false:=by rw[hjl,hc];rfl
 refine sx Tryz.func72 (by kernel_rfl) ?_
 repeat((conv=>whnf);first|refine known true rfl ?_|refine known false rfl ?_|refine known false hcb ?_)
 conv=>whnf
 refine⟨[],Nat,fun m=>[(7,int m)],fun _=>[],fun m=>m≤js.length∧F m (js.drop m)=F 0 js,fun m=>js.length - m,0,⟨Nat.zero_le _,rfl⟩,?_,?_⟩
 ·refine⟨rfl,?_,?_⟩<;>repeat' (first|exact trivial|exact rfl|refine and_rfl ?_|refine and_two ?_ ?_)
 rintro m ⟨hm,hk⟩
 conv=>whnf
 rintro(_|_) h2
 ·have h2:js.length≤m:=by simp at h2;omega
  rw[List.drop_eq_nil_of_le h2] at hk
  rw[←hk,hF]
  (conv=>whnf)<;>rfl
 have h2:m<js.length:=by simp at h2;omega
 have hw:IntKind.i64.wrap (((m:Nat):Int)+1)=((m+1:Nat):Int):=wrap_succ (by omega)
 obtain⟨j,hj1,hj2⟩:=hkid _ (List.getElem_mem h2)
 have hgj:(js.map intD)[((m:Nat):Int).toNat]?=some (intD ((j:Nat):Int)):=by rw[←hj1];exact get_map intD h2
 have hgn:(l.map ndD)[((j:Nat):Int).toNat]?=some (ndD l[j]):=get_map ndD hj2
 have hka:kindAt l js[m]=l[j].kind:=by unfold kindAt;rw[hj1,Int.toNat_natCast,List.getElem?_eq_getElem hj2];rfl
 rw[List.drop_eq_getElem_cons h2,hF] at hk
 simp only[fitsL] at hk
 rw[hka,←hF] at hk
 conv=>whnf
 refine⟨Int.natCast_nonneg m,_,hgj,?_⟩
 conv=>whnf
 refine⟨Int.natCast_nonneg j,_,hgn,?_⟩
 repeat((conv=>whnf);first|refine known true rfl ?_|refine known false rfl ?_)
 simp only[fitsB] at hk
 rw[if_neg (by decide),if_neg (by simp)] at hk
 refine⟨_,x_rexpression l[j],?_⟩
 conv=>whnf
 rintro(_|_) h3
 ·have h3:exprK l[j].kind=true:=by simpa using h3
  rw[h3,Bool.true_and] at hk
  conv=>whnf
  refine⟨m+1,⟨h2,hk⟩,by(try dsimp only);omega,?_⟩
  refine⟨rfl,?_,?_⟩<;>repeat' (first|exact trivial|exact rfl|refine and_rfl ?_|refine and_val hw ?_|refine and_two ?_ ?_)
 ·have h3:exprK l[j].kind=false:=by simpa using h3
  rw[h3,Bool.false_and] at hk
  rw[←hk]
  (conv=>whnf)<;>rfl
theorem x_rparts18 (l:List Nd) (s:Bs) (v:Int) (ks:List Bs) (js:List Int) (_hln:l.length≤8796093022207) (_hjs:js.length≤17592186044415) (hkid:∀k∈js,∃j:Nat,k=((j:Nat):Int)∧j<l.length):DCalls Tryz.prog 72 [.sl true 5 (l.map ndD),Nd.V ⟨18,s,v,ks,js⟩] (boo (partsB l ⟨18,s,v,ks,js⟩)):=by
 have hjl:(js.map intD).length=js.length:=List.length_map _
 have e:partsB l ⟨18,s,v,ks,js⟩=(countB 18 js.length&&fitsL l 18 0 js):=rfl
 rw[e]
 obtain⟨F,hF⟩:∃F:Nat→List Int→Bool,F=fitsL l 18:=⟨_,rfl⟩
 rw[←hF]
 cases hc:countB 18 js.length with
 |false=>
  simp[countB] at hc
  have hcF1:(((js.map intD).length:Int) !=1)=true:=by rw[hjl,bne_iff_ne];have hc':=hc;(try simp at hc');omega
  refine sx Tryz.func72 (by kernel_rfl) ?_
  repeat((conv=>whnf);first|refine known true rfl ?_|refine known false rfl ?_|refine known true hcF1 ?_)
  (conv=>whnf)<;>rfl
 |true=>
 rw[Bool.true_and]
 have hc:js.length=1:=by simp[countB] at hc;simp[hc]
 have hcb:(((js.map intD).length:Int) !=1)=false:=by rw[hjl,hc];rfl
 refine sx Tryz.func72 (by kernel_rfl) ?_
 repeat((conv=>whnf);first|refine known true rfl ?_|refine known false rfl ?_|refine known false hcb ?_)
 conv=>whnf
 refine⟨[],Nat,fun m=>[(7,int m)],fun _=>[],fun m=>m≤js.length∧F m (js.drop m)=F 0 js,fun m=>js.length - m,0,⟨Nat.zero_le _,rfl⟩,?_,?_⟩
 ·refine⟨rfl,?_,?_⟩<;>repeat' (first|exact trivial|exact rfl|refine and_rfl ?_|refine and_two ?_ ?_)
 rintro m ⟨hm,hk⟩
 conv=>whnf
 rintro(_|_) h2
 ·have h2:js.length≤m:=by simp at h2;omega
  rw[List.drop_eq_nil_of_le h2] at hk
  rw[←hk,hF]
  (conv=>whnf)<;>rfl
 have h2:m<js.length:=by simp at h2;omega
 have hw:IntKind.i64.wrap (((m:Nat):Int)+1)=((m+1:Nat):Int):=wrap_succ (by omega)
 obtain⟨j,hj1,hj2⟩:=hkid _ (List.getElem_mem h2)
 have hgj:(js.map intD)[((m:Nat):Int).toNat]?=some (intD ((j:Nat):Int)):=by rw[←hj1];exact get_map intD h2
 have hgn:(l.map ndD)[((j:Nat):Int).toNat]?=some (ndD l[j]):=get_map ndD hj2
 have hka:kindAt l js[m]=l[j].kind:=by unfold kindAt;rw[hj1,Int.toNat_natCast,List.getElem?_eq_getElem hj2];rfl
 rw[List.drop_eq_getElem_cons h2,hF] at hk
 simp only[fitsL] at hk
 rw[hka,←hF] at hk
 conv=>whnf
 refine⟨Int.natCast_nonneg m,_,hgj,?_⟩
 conv=>whnf
 refine⟨Int.natCast_nonneg j,_,hgn,?_⟩
 repeat((conv=>whnf);first|refine known true rfl ?_|refine known false rfl ?_)
 simp only[fitsB] at hk
 rw[if_neg (by decide),if_neg (by simp)] at hk
 refine⟨_,x_rexpression l[j],?_⟩
 conv=>whnf
 rintro(_|_) h3
 ·have h3:exprK l[j].kind=true:=by simpa using h3
  rw[h3,Bool.true_and] at hk
  conv=>whnf
  refine⟨m+1,⟨h2,hk⟩,by(try dsimp only);omega,?_⟩
  refine⟨rfl,?_,?_⟩<;>repeat' (first|exact trivial|exact rfl|refine and_rfl ?_|refine and_val hw ?_|refine and_two ?_ ?_)
 ·have h3:exprK l[j].kind=false:=by simpa using h3
  rw[h3,Bool.false_and] at hk
  rw[←hk]
  (conv=>whnf)<;>rfl
end Go.Proofs.YtglndfgmlminpaaGreatDoor
namespace Go.Proofs.YtglndfgmlminpaaGreatDoor
open Go.RowKit
theorem x_rparts15 (l:List Nd) (s:Bs) (v:Int) (ks:List Bs) (js:List Int) (_hln:l.length≤8796093022207) (hjs:js.length≤17592186044415) (hkid:∀k∈js,∃j:Nat,k=((j:Nat):Int)∧j<l.length):DCalls Tryz.prog 72 [.sl true 5 (l.map ndD),Nd.V ⟨15,s,v,ks,js⟩] (boo (partsB l ⟨15,s,v,ks,js⟩)):=by
 have hjl:(js.map intD).length=js.length:=List.length_map _
 have e:partsB l ⟨15,s,v,ks,js⟩=(countB 15 js.length&&fitsL l 15 0 js):=rfl
 rw[e]
 obtain⟨F,hF⟩:∃F:Nat→List Int→Bool,F=fitsL l 15:=⟨_,rfl⟩
 rw[←hF]
 cases hc:countB 15 js.length with
 |false=>
  simp[countB] at hc
  have hcF2:(((js.map intD).length:Int) !=2)=true:=by rw[hjl,bne_iff_ne];have hc':=hc;(try simp at hc');omega
  have hcF3:(((js.map intD).length:Int) !=3)=true:=by rw[hjl,bne_iff_ne];have hc':=hc;(try simp at hc');omega
  refine sx Tryz.func72 (by kernel_rfl) ?_
  repeat((conv=>whnf);first|refine known true rfl ?_|refine known false rfl ?_|refine known true hcF2 ?_|refine known true hcF3 ?_)
  (conv=>whnf)<;>rfl
 |true=>
 rw[Bool.true_and]
 have hc:js.length=2∨js.length=3:=by simp[countB] at hc;simp[hc]
 have hc2:∀b:Bool,((js.map intD).length:Int)=2∨((js.map intD).length:Int)=3:=fun _=>by rw[hjl];omega
 refine sx Tryz.func72 (by kernel_rfl) ?_
 repeat((conv=>whnf);first|refine known true rfl ?_|refine known false rfl ?_)
 conv=>whnf
 rintro(_|_) h9
 all_goals(repeat((conv=>whnf);first|refine known true rfl ?_|refine known false rfl ?_|refine known false (by simp at h9⊢;omega) ?_))
 all_goals
  conv=>whnf
  refine⟨[],Nat,fun m=>[(7,int m)],fun _=>[],fun m=>m≤js.length∧F m (js.drop m)=F 0 js,fun m=>js.length - m,0,⟨Nat.zero_le _,rfl⟩,?_,?_⟩
  ·refine⟨rfl,?_,?_⟩<;>repeat' (first|exact trivial|exact rfl|refine and_rfl ?_|refine and_two ?_ ?_)
  rintro m ⟨hm,hk⟩
  conv=>whnf
  rintro(_|_) h2
  ·have h2:js.length≤m:=by simp at h2;omega
   rw[List.drop_eq_nil_of_le h2] at hk
   rw[←hk,hF]
   (conv=>whnf)<;>rfl
  have h2:m<js.length:=by simp at h2;omega
  have hw:IntKind.i64.wrap (((m:Nat):Int)+1)=((m+1:Nat):Int):=wrap_succ (by omega)
  obtain⟨j,hj1,hj2⟩:=hkid _ (List.getElem_mem h2)
  have hgj:(js.map intD)[((m:Nat):Int).toNat]?=some (intD ((j:Nat):Int)):=by rw[←hj1];exact get_map intD h2
  have hgn:(l.map ndD)[((j:Nat):Int).toNat]?=some (ndD l[j]):=get_map ndD hj2
  have hka:kindAt l js[m]=l[j].kind:=by unfold kindAt;rw[hj1,Int.toNat_natCast,List.getElem?_eq_getElem hj2];rfl
  rw[List.drop_eq_getElem_cons h2,hF] at hk
  simp only[fitsL] at hk
  rw[hka,←hF] at hk
  conv=>whnf
  refine⟨Int.natCast_nonneg m,_,hgj,?_⟩
  conv=>whnf
  refine⟨Int.natCast_nonneg j,_,hgn,?_⟩
  repeat((conv=>whnf);first|refine known true rfl ?_|refine known false rfl ?_)
  conv=>whnf
  rintro(_|_) h4
  ·have h4:m=0:=by simp at h4;omega
   simp only[fitsB] at hk
   rw[if_neg (by decide),if_neg (by omega)] at hk
   conv=>whnf
   refine⟨_,x_rexpression l[j],?_⟩
   conv=>whnf
   rintro(_|_) h3
   ·have h3:exprK l[j].kind=true:=by simpa using h3
    rw[h3,Bool.true_and] at hk
    conv=>whnf
    refine⟨m+1,⟨h2,hk⟩,by(try dsimp only);omega,?_⟩
    refine⟨rfl,?_,?_⟩<;>repeat' (first|exact trivial|exact rfl|refine and_rfl ?_|refine and_val hw ?_|refine and_two ?_ ?_)
   ·have h3:exprK l[j].kind=false:=by simpa using h3
    rw[h3,Bool.false_and] at hk
    rw[←hk]
    (conv=>whnf)<;>rfl
  ·have h4:0<m:=by simp at h4;omega
   simp only[fitsB] at hk
   rw[if_neg (by decide),if_pos (by simp;omega)] at hk
   conv=>whnf
   rintro(_|_) h3
   ·have h3:l[j].kind=19:=by simpa using h3
    rw[h3,decide_eq_true rfl,Bool.true_and] at hk
    conv=>whnf
    refine⟨m+1,⟨h2,hk⟩,by(try dsimp only);omega,?_⟩
    refine⟨rfl,?_,?_⟩<;>repeat' (first|exact trivial|exact rfl|refine and_rfl ?_|refine and_val hw ?_|refine and_two ?_ ?_)
   ·have h3:l[j].kind≠19:=by simpa using h3
    rw[decide_eq_false h3,Bool.false_and] at hk
    rw[←hk]
    (conv=>whnf)<;>rfl
theorem x_rparts16 (l:List Nd) (s:Bs) (v:Int) (ks:List Bs) (js:List Int) (_hln:l.length≤8796093022207) (_hjs:js.length≤17592186044415) (hkid:∀k∈js,∃j:Nat,k=((j:Nat):Int)∧j<l.length):DCalls Tryz.prog 72 [.sl true 5 (l.map ndD),Nd.V ⟨16,s,v,ks,js⟩] (boo (partsB l ⟨16,s,v,ks,js⟩)):=by
 have hjl:(js.map intD).length=js.length:=List.length_map _
 have e:partsB l ⟨16,s,v,ks,js⟩=(countB 16 js.length&&fitsL l 16 0 js):=rfl
 rw[e]
 obtain⟨F,hF⟩:∃F:Nat→List Int→Bool,F=fitsL l 16:=⟨_,rfl⟩
 rw[←hF]
 cases hc:countB 16 js.length with
 |false=>
  simp[countB] at hc
  have hcF2:(((js.map intD).length:Int) !=2)=true:=by rw[hjl,bne_iff_ne];have hc':=hc;(try simp at hc');omega
  refine sx Tryz.func72 (by kernel_rfl) ?_
  repeat((conv=>whnf);first|refine known true rfl ?_|refine known false rfl ?_|refine known true hcF2 ?_)
  (conv=>whnf)<;>rfl
 |true=>
 rw[Bool.true_and]
 have hc:js.length=2:=by simp[countB] at hc;simp[hc]
 have hcb:(((js.map intD).length:Int) !=2)=false:=by rw[hjl,hc];rfl
 refine sx Tryz.func72 (by kernel_rfl) ?_
 repeat((conv=>whnf);first|refine known true rfl ?_|refine known false rfl ?_|refine known false hcb ?_)
 conv=>whnf
 refine⟨[],Nat,fun m=>[(7,int m)],fun _=>[],fun m=>m≤js.length∧F m (js.drop m)=F 0 js,fun m=>js.length - m,0,⟨Nat.zero_le _,rfl⟩,?_,?_⟩
 ·refine⟨rfl,?_,?_⟩<;>repeat' (first|exact trivial|exact rfl|refine and_rfl ?_|refine and_two ?_ ?_)
 rintro m ⟨hm,hk⟩
 conv=>whnf
 rintro(_|_) h2
 ·have h2:js.length≤m:=by simp at h2;omega
  rw[List.drop_eq_nil_of_le h2] at hk
  rw[←hk,hF]
  (conv=>whnf)<;>rfl
 have h2:m<js.length:=by simp at h2;omega
 have hw:IntKind.i64.wrap (((m:Nat):Int)+1)=((m+1:Nat):Int):=wrap_succ (by omega)
 obtain⟨j,hj1,hj2⟩:=hkid _ (List.getElem_mem h2)
 have hgj:(js.map intD)[((m:Nat):Int).toNat]?=some (intD ((j:Nat):Int)):=by rw[←hj1];exact get_map intD h2
 have hgn:(l.map ndD)[((j:Nat):Int).toNat]?=some (ndD l[j]):=get_map ndD hj2
 have hka:kindAt l js[m]=l[j].kind:=by unfold kindAt;rw[hj1,Int.toNat_natCast,List.getElem?_eq_getElem hj2];rfl
 rw[List.drop_eq_getElem_cons h2,hF] at hk
 simp only[fitsL] at hk
 rw[hka,←hF] at hk
 conv=>whnf
 refine⟨Int.natCast_nonneg m,_,hgj,?_⟩
 conv=>whnf
 refine⟨Int.natCast_nonneg j,_,hgn,?_⟩
 repeat((conv=>whnf);first|refine known true rfl ?_|refine known false rfl ?_)
 conv=>whnf
 rintro(_|_) h4
 ·have h4:m=0:=by simp at h4;omega
  simp only[fitsB] at hk
  rw[if_neg (by decide),if_neg (by omega)] at hk
  conv=>whnf
  refine⟨_,x_rexpression l[j],?_⟩
  conv=>whnf
  rintro(_|_) h3
  ·have h3:exprK l[j].kind=true:=by simpa using h3
   rw[h3,Bool.true_and] at hk
   conv=>whnf
   refine⟨m+1,⟨h2,hk⟩,by(try dsimp only);omega,?_⟩
   refine⟨rfl,?_,?_⟩<;>repeat' (first|exact trivial|exact rfl|refine and_rfl ?_|refine and_val hw ?_|refine and_two ?_ ?_)
  ·have h3:exprK l[j].kind=false:=by simpa using h3
   rw[h3,Bool.false_and] at hk
   rw[←hk]
   (conv=>whnf)<;>rfl
 ·have h4:0<m:=by simp at h4;omega
  simp only[fitsB] at hk
  rw[if_neg (by decide),if_pos (by simp;omega)] at hk
  conv=>whnf
  rintro(_|_) h3
  ·have h3:l[j].kind=19:=by simpa using h3
   rw[h3,decide_eq_true rfl,Bool.true_and] at hk
   conv=>whnf
   refine⟨m+1,⟨h2,hk⟩,by(try dsimp only);omega,?_⟩
   refine⟨rfl,?_,?_⟩<;>repeat' (first|exact trivial|exact rfl|refine and_rfl ?_|refine and_val hw ?_|refine and_two ?_ ?_)
  ·have h3:l[j].kind≠19:=by simpa using h3
   rw[decide_eq_false h3,Bool.false_and] at hk
   rw[←hk]
   (conv=>whnf)<;>rfl
theorem x_rparts19 (l:List Nd) (s:Bs) (v:Int) (ks:List Bs) (js:List Int) (_hln:l.length≤8796093022207) (hjs:js.length≤17592186044415) (hkid:∀k∈js,∃j:Nat,k=((j:Nat):Int)∧j<l.length):DCalls Tryz.prog 72 [.sl true 5 (l.map ndD),Nd.V ⟨19,s,v,ks,js⟩] (boo (partsB l ⟨19,s,v,ks,js⟩)):=by
 have hjl:(js.map intD).length=js.length:=List.length_map _
 have e:partsB l ⟨19,s,v,ks,js⟩=(countB 19 js.length&&fitsL l 19 0 js):=rfl
 rw[e]
 obtain⟨F,hF⟩:∃F:Nat→List Int→Bool,F=fitsL l 19:=⟨_,rfl⟩
 rw[←hF]
 rw[show countB 19 js.length=true by simp[countB],Bool.true_and]
 refine sx Tryz.func72 (by kernel_rfl) ?_
 repeat((conv=>whnf);first|refine known true rfl ?_|refine known false rfl ?_)
 conv=>whnf
 refine⟨[],Nat,fun m=>[(7,int m)],fun _=>[],fun m=>m≤js.length∧F m (js.drop m)=F 0 js,fun m=>js.length - m,0,⟨Nat.zero_le _,rfl⟩,?_,?_⟩
 ·refine⟨rfl,?_,?_⟩<;>repeat' (first|exact trivial|exact rfl|refine and_rfl ?_|refine and_two ?_ ?_)
 rintro m ⟨hm,hk⟩
 conv=>whnf
 rintro(_|_) h2
 ·have h2:js.length≤m:=by simp at h2;omega
  rw[List.drop_eq_nil_of_le h2] at hk
  rw[←hk,hF]
  (conv=>whnf)<;>rfl
 have h2:m<js.length:=by simp at h2;omega
 have hw:IntKind.i64.wrap (((m:Nat):Int)+1)=((m+1:Nat):Int):=wrap_succ (by omega)
 obtain⟨j,hj1,hj2⟩:=hkid _ (List.getElem_mem h2)
 have hgj:(js.map intD)[((m:Nat):Int).toNat]?=some (intD ((j:Nat):Int)):=by rw[←hj1];exact get_map intD h2
 have hgn:(l.map ndD)[((j:Nat):Int).toNat]?=some (ndD l[j]):=get_map ndD hj2
 have hka:kindAt l js[m]=l[j].kind:=by unfold kindAt;rw[hj1,Int.toNat_natCast,List.getElem?_eq_getElem hj2];rfl
 rw[List.drop_eq_getElem_cons h2,hF] at hk
 simp only[fitsL] at hk
 rw[hka,←hF] at hk
 conv=>whnf
 refine⟨Int.natCast_nonneg m,_,hgj,?_⟩
 conv=>whnf
 refine⟨Int.natCast_nonneg j,_,hgn,?_⟩
 repeat((conv=>whnf);first|refine known true rfl ?_|refine known false rfl ?_)
 simp only[fitsB,if_true] at hk
 refine⟨_,x_rstatement l[j],?_⟩
 conv=>whnf
 rintro(_|_) h3
 ·have h3:stmtK l[j].kind=true:=by simpa using h3
  rw[h3,Bool.true_and] at hk
  conv=>whnf
  refine⟨m+1,⟨h2,hk⟩,by(try dsimp only);omega,?_⟩
  refine⟨rfl,?_,?_⟩<;>repeat' (first|exact trivial|exact rfl|refine and_rfl ?_|refine and_val hw ?_|refine and_two ?_ ?_)
 ·have h3:stmtK l[j].kind=false:=by simpa using h3
  rw[h3,Bool.false_and] at hk
  rw[←hk]
  (conv=>whnf)<;>rfl
end Go.Proofs.YtglndfgmlminpaaGreatDoor
