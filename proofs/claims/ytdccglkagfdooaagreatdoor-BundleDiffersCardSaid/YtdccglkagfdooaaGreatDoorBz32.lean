/- Texts joined by pack.py: XSyG -/
import Derived.Test.YtdccglkagfdooaaGreatDoorBz30
set_option maxHeartbeats 8000000
set_option maxRecDepth 100000
namespace Go.Proofs.YtdccglkagfdooaaGreatDoor
open Go.RowKit
section
variable {l:List Tok} {k:Nat} {e:Int} {ns:List Nd} {fs:List Fc} {f:Nat} {E:Pars} {ks:List Bs} {js:List Int}
theorem x_kitemN2 (hk:k<l.length) (h4:l[k].kind=4) (ho:ks=[]∨Op.bytesLess (ks.getLastD []) l[k].text=true) (hcl:isSym sCl (l.drop (k+1))=false) (hl:l.length≤1000000) (hks:ks.length≤1000000):
  MPans Tryz.prog 233 [.bx 0 0,.bx 3 0] (kM l k e ns fs ks js) (faultV (offT e (l.drop (k+1)))):=by
 have hb5:nextB 5 [sCl] (l.drop (k+1))=false:=by rw[nextB_one];exact hcl
 have hb4:nextB 4 [] (l.drop k)=true:=by rw[nextB_eq _ _ hk];simp[h4]
 have hlk:(ks.map strD).length=ks.length:=List.length_map _
 refine mpsx Tryz.func233 (by kernel_rfl) (by kernel_rfl) ?_
 conv=>whnf
 refine⟨none,by kernel_rfl,?_⟩
 rcases List.eq_nil_or_concat ks with rfl|⟨kt,kl,rfl⟩
 repeat((conv=>whnf);first|refine known true rfl ?_|refine known false rfl ?_)
 rotate_left
 rw[List.concat_eq_append] at*
 have hlk:((kt++[kl]).map strD).length=kt.length+1:=by simp
 have hw:IntKind.i64.wrap ((((((kt++[kl]).map strD).length:Nat)):Int) - 1)=((kt.length:Nat):Int):=by rw[hlk,wrap_in (by simp at hks;omega)];omega
 have hget:((kt++[kl]).map strD)[((kt.length:Nat):Int).toNat]?=some (strD kl):=by simp
 conv=>whnf
 refine known true (by rw[hlk];simp) ?_
 conv=>whnf
 refine mcall (T:=TM parM) (φ:=[]) (gf:=false) (x_next 4 [] (Nat.le_of_lt hk) hl (by simp)) ?_
 rw[hb4]
 conv=>whnf
 refine known true rfl ?_
 conv=>whnf
 refine⟨by omega,_,get_map tokD hk,?_⟩
 conv=>whnf
 rw[hw]
 conv=>whnf
 refine⟨by omega,by rw[hlk];simp,?_⟩
 conv=>whnf
 refine⟨_,hget,?_⟩
 have ho:Op.bytesLess kl l[k].text=true:=by
  rcases ho with ho|ho
  ·simp at ho
  ·simpa using ho
 conv=>whnf
 refine known false (by rw[mk_toList,mk_toList,bl_not,ho];rfl) ?_
 all_goals
  conv=>whnf
  refine⟨some planK1,by kernel_rfl,?_⟩
  conv=>whnf
  refine⟨.bx 52 3,fun m2 K2 hK=>hK,?_⟩
  conv=>whnf
  refine⟨?_,?_,trivial⟩
 all_goals
  conv=>whnf
  try refine⟨?_,trivial⟩
  conv=>whnf
  refine .inl ?_
  conv=>whnf
  refine mcall (T:=TM parM) (φ:=[]) (gf:=false) (x_mustY (ts:=[]) hl (by simp) hb4 hk) ?_
  conv=>whnf
  refine⟨by rw[List.length_map];show(_+1)*16≤_;simp only[List.length_nil,List.length_append,List.length_cons] at*;omega,?_⟩
  conv=>whnf
  refine .inr ?_
  exact mpan (T:=TM parM) (x_mustN (k:=k+1) (ts:=[sCl]) hl (by simp) hb5 hk) rfl
theorem x_kitemN3 {o:Int} (hk:k<l.length) (h4:l[k].kind=4) (ho:ks=[]∨Op.bytesLess (ks.getLastD []) l[k].text=true) (hcl:isSym sCl (l.drop (k+1))=true) (hk2:k+1<l.length)
  (c:MPans Tryz.prog 183 [.bx 0 0] (pM l (k+2) e ns fs) (faultV o)) (hl:l.length≤1000000) (hks:ks.length≤1000000) (_hjs:js.length≤1000000):
  MPans Tryz.prog 233 [.bx 0 0,.bx 3 0] (kM l k e ns fs ks js) (faultV o):=by
 have hb5:nextB 5 [sCl] (l.drop (k+1))=true:=by rw[nextB_one];exact hcl
 have hb4:nextB 4 [] (l.drop k)=true:=by rw[nextB_eq _ _ hk];simp[h4]
 have hlk:(ks.map strD).length=ks.length:=List.length_map _
 refine mpsx Tryz.func233 (by kernel_rfl) (by kernel_rfl) ?_
 conv=>whnf
 refine⟨none,by kernel_rfl,?_⟩
 rcases List.eq_nil_or_concat ks with rfl|⟨kt,kl,rfl⟩
 repeat((conv=>whnf);first|refine known true rfl ?_|refine known false rfl ?_)
 rotate_left
 rw[List.concat_eq_append] at*
 have hlk:((kt++[kl]).map strD).length=kt.length+1:=by simp
 have hw:IntKind.i64.wrap ((((((kt++[kl]).map strD).length:Nat)):Int) - 1)=((kt.length:Nat):Int):=by rw[hlk,wrap_in (by simp at hks;omega)];omega
 have hget:((kt++[kl]).map strD)[((kt.length:Nat):Int).toNat]?=some (strD kl):=by simp
 conv=>whnf
 refine known true (by rw[hlk];simp) ?_
 conv=>whnf
 refine mcall (T:=TM parM) (φ:=[]) (gf:=false) (x_next 4 [] (Nat.le_of_lt hk) hl (by simp)) ?_
 rw[hb4]
 conv=>whnf
 refine known true rfl ?_
 conv=>whnf
 refine⟨by omega,_,get_map tokD hk,?_⟩
 conv=>whnf
 rw[hw]
 conv=>whnf
 refine⟨by omega,by rw[hlk];simp,?_⟩
 conv=>whnf
 refine⟨_,hget,?_⟩
 have ho:Op.bytesLess kl l[k].text=true:=by
  rcases ho with ho|ho
  ·simp at ho
  ·simpa using ho
 conv=>whnf
 refine known false (by rw[mk_toList,mk_toList,bl_not,ho];rfl) ?_
 all_goals
  conv=>whnf
  refine⟨some planK1,by kernel_rfl,?_⟩
  conv=>whnf
  refine⟨.bx 52 3,fun m2 K2 hK=>hK,?_⟩
  conv=>whnf
  refine⟨?_,?_,trivial⟩
 all_goals
  conv=>whnf
  try refine⟨?_,trivial⟩
  conv=>whnf
  refine .inl ?_
  conv=>whnf
  refine mcall (T:=TM parM) (φ:=[]) (gf:=false) (x_mustY (ts:=[]) hl (by simp) hb4 hk) ?_
  conv=>whnf
  refine⟨by rw[List.length_map];show(_+1)*16≤_;simp only[List.length_nil,List.length_append,List.length_cons] at*;omega,?_⟩
  conv=>whnf
  refine .inl ?_
  conv=>whnf
  refine mcall (T:=TM parM) (φ:=[]) (gf:=false) (x_mustY (k:=k+1) (ts:=[sCl]) hl (by simp) hb5 hk2) ?_
  conv=>whnf
  refine⟨some planK2,by kernel_rfl,?_⟩
  conv=>whnf
  refine⟨.bx 52 4,fun m2 K2 hK=>hK,?_⟩
  conv=>whnf
  refine⟨?_,?_,trivial⟩
 all_goals
  conv=>whnf
  try refine⟨?_,trivial⟩
  conv=>whnf
  refine .inr ?_
  exact mpan (T:=TM parM) c rfl
theorem x_kitemN0 (hk:k≤l.length) (hb4:nextB 4 [] (l.drop k)=false) (hl:l.length≤1000000):
  MPans Tryz.prog 233 [.bx 0 0,.bx 3 0] (kM l k e ns fs ks js) (faultV (offT e (l.drop k))):=by
 have hlk:(ks.map strD).length=ks.length:=List.length_map _
 refine mpsx Tryz.func233 (by kernel_rfl) (by kernel_rfl) ?_
 conv=>whnf
 refine⟨none,by kernel_rfl,?_⟩
 cases ks with
 |nil=>
  repeat((conv=>whnf);first|refine known true rfl ?_|refine known false rfl ?_)
  conv=>whnf
  refine⟨some planK1,by kernel_rfl,?_⟩
  conv=>whnf
  refine⟨.bx 52 3,fun m2 K2 hK=>hK,?_⟩
  conv=>whnf
  refine⟨?_,?_,trivial⟩
  all_goals
   conv=>whnf
   try refine⟨?_,trivial⟩
   conv=>whnf
   refine .inr ?_
   exact mpan (T:=TM parM) (x_mustN (ts:=[]) hl (by simp) hb4 hk) rfl
 |cons kt ks=>
  conv=>whnf
  refine known true (by rw[hlk];simp) ?_
  conv=>whnf
  refine mcall (T:=TM parM) (φ:=[]) (gf:=false) (x_next 4 [] hk hl (by simp)) ?_
  rw[hb4]
  repeat((conv=>whnf);first|refine known true rfl ?_|refine known false rfl ?_)
  conv=>whnf
  refine⟨some planK1,by kernel_rfl,?_⟩
  conv=>whnf
  refine⟨.bx 52 3,fun m2 K2 hK=>hK,?_⟩
  conv=>whnf
  refine⟨?_,?_,trivial⟩
  all_goals
   conv=>whnf
   try refine⟨?_,trivial⟩
   conv=>whnf
   refine .inr ?_
   exact mpan (T:=TM parM) (x_mustN (ts:=[]) hl (by simp) hb4 hk) rfl
theorem x_kitemN1 (hk:k<l.length) (h4:l[k].kind=4) (h0:ks≠[]) (ho:Op.bytesLess (ks.getLastD []) l[k].text=false) (hl:l.length≤1000000) (hks:ks.length≤1000000):
  MPans Tryz.prog 233 [.bx 0 0,.bx 3 0] (kM l k e ns fs ks js) (faultV (offT e (l.drop k))):=by
 have hb4:nextB 4 [] (l.drop k)=true:=by rw[nextB_eq _ _ hk];simp[h4]
 refine mpsx Tryz.func233 (by kernel_rfl) (by kernel_rfl) ?_
 conv=>whnf
 refine⟨none,by kernel_rfl,?_⟩
 rcases List.eq_nil_or_concat ks with rfl|⟨kt,kl,rfl⟩
 ·exact absurd rfl h0
 rw[List.concat_eq_append] at*
 have hlk:((kt++[kl]).map strD).length=kt.length+1:=by simp
 have hw:IntKind.i64.wrap ((((((kt++[kl]).map strD).length:Nat)):Int) - 1)=((kt.length:Nat):Int):=by rw[hlk,wrap_in (by simp at hks;omega)];omega
 have hget:((kt++[kl]).map strD)[((kt.length:Nat):Int).toNat]?=some (strD kl):=by simp
 conv=>whnf
 refine known true (by rw[hlk];simp) ?_
 conv=>whnf
 refine mcall (T:=TM parM) (φ:=[]) (gf:=false) (x_next 4 [] (Nat.le_of_lt hk) hl (by simp)) ?_
 rw[hb4]
 conv=>whnf
 refine known true rfl ?_
 conv=>whnf
 refine⟨by omega,_,get_map tokD hk,?_⟩
 conv=>whnf
 rw[hw]
 conv=>whnf
 refine⟨by omega,by rw[hlk];simp,?_⟩
 conv=>whnf
 refine⟨_,hget,?_⟩
 have ho:Op.bytesLess kl l[k].text=false:=by simpa using ho
 conv=>whnf
 refine known true (by rw[mk_toList,mk_toList,bl_not,ho];rfl) ?_
 conv=>whnf
 refine .inr ?_
 exact mpan (T:=TM parM) (x_fail hl) rfl
end
end Go.Proofs.YtdccglkagfdooaaGreatDoor
