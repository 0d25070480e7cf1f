/- Texts joined by pack.py: XSyF -/
import Derived.Test.YtdccglkagfdooaaGreatDoorBz29
set_option maxHeartbeats 8000000
set_option maxRecDepth 100000
namespace Go.Proofs.YtdccglkagfdooaaGreatDoor
open Go.RowKit
theorem bl_not:∀a b:Bs,(Op.bytesLess a b||(a==b))= !(Op.bytesLess b a)
 |[],[]=>rfl
 |[],b::y=>rfl
 |a::x,[]=>rfl
 |a::x,b::y=>by
  have ih:=bl_not x y
  rcases Nat.lt_trichotomy a.toNat b.toNat with h|h|h
  ·have h1:a<b:=UInt8.lt_iff_toNat_lt.2 h
   have h2:¬b<a:=fun h'=>by have:=UInt8.lt_iff_toNat_lt.1 h';omega
   have h3:¬b=a:=by rintro rfl;omega
   simp[Op.bytesLess,h1,h2,h3]
  ·obtain rfl:a=b:=UInt8.toNat_inj.1 h
   have h2:¬a<a:=fun h'=>by have:=UInt8.lt_iff_toNat_lt.1 h';omega
   simp only[Op.bytesLess,h2,decide_false,Bool.false_or,beq_self_eq_true,Bool.true_and,List.cons_beq_cons]
   exact ih
  ·have h1:¬a<b:=fun h'=>by have:=UInt8.lt_iff_toNat_lt.1 h';omega
   have h2:b<a:=UInt8.lt_iff_toNat_lt.2 h
   have h3:¬a=b:=by rintro rfl;omega
   simp[Op.bytesLess,h1,h2,h3]
theorem mk_toList (l:Bs):(mk l).toList=l:=by
 rw[ByteArray.toList_eq]
 simp[mk]
section
variable {l:List Tok} {k:Nat} {e:Int} {ns:List Nd} {fs:List Fc} {f:Nat} {E:Pars} {ks:List Bs} {js:List Int}
abbrev kM (l:List Tok) (k:Nat) (e:Int) (ns:List Nd) (fs:List Fc) (ks:List Bs) (js:List Int):List Bk:=
 [.box [int 7,bstr [],int 0,.ow 1 0,.ow 2 0],sRow false ks,iRow false js,.box [.bx 4 0],pBox l k e 5 6,nRow ns,fRow fs]
def planK (T:Plan):Plan:= .one 2 (.pull 0 (.alt 1 (.alt 3 T .stop) (.alt 3 (.one 1 T) .stop)))
def planK1:Plan:=planK (.one 4 (.one 5 (.one 6 (.one 7 (.one 8 .done)))))
def planK2:Plan:=planK (.one 4 (.one 5 (.one 6 (.one 7 .done))))
theorem x_kitemY {i:Int} {k1:Nat} {ns1:List Nd} (hk:k<l.length) (h4:l[k].kind=4) (ho:ks=[]∨Op.bytesLess (ks.getLastD []) l[k].text=true) (hcl:isSym sCl (l.drop (k+1))=true) (hk2:k+1<l.length)
  (c:MCalls Tryz.prog 183 [.bx 0 0] (pM l (k+2) e ns fs) (int i) (pM l k1 e ns1 fs)) (hl:l.length≤1000000) (hks:ks.length≤1000000) (hjs:js.length≤1000000):
  MCalls Tryz.prog 233 [.bx 0 0,.bx 3 0] (kM l k e ns fs ks js) (.tu []) (kM l k1 e ns1 fs (ks++[l[k].text]) (js++[i])):=by
 have e1:kM l k1 e ns1 fs (ks++[l[k].text]) (js++[i])=[.box [int 7,bstr [],int 0,.ow 1 0,.ow 2 0],.row 0 9 1 false (ks.map strD++[strD l[k].text]),.row 0 3 1 false (js.map intD++[intD i]),.box [.bx 4 0],pBox l k1 e 5 6,nRow ns1,fRow fs]:=by simp only[kM,iRow,sRow,List.map_append,List.map_cons,List.map_nil]
 have hb4:nextB 4 [] (l.drop k)=true:=by rw[nextB_eq _ _ hk];simp[h4]
 have hb5:nextB 5 [sCl] (l.drop (k+1))=true:=by rw[nextB_one];exact hcl
 have hlk:(ks.map strD).length=ks.length:=List.length_map _
 refine mcx Tryz.func233 (by kernel_rfl) (by kernel_rfl) ?_
 conv=>whnf
 refine⟨none,by kernel_rfl,?_⟩
 rcases List.eq_nil_or_concat ks with rfl|⟨kt,kl,rfl⟩
 repeat((conv=>whnf);first|refine known true rfl ?_|refine known false rfl ?_)
 rotate_left
 rw[List.concat_eq_append] at*
 have hlk:((kt++[kl]).map strD).length=kt.length+1:=by simp
 have hw:IntKind.i64.wrap ((((((kt++[kl]).map strD).length:Nat)):Int) - 1)=((kt.length:Nat):Int):=by rw[hlk,wrap_in (by simp at hks;omega)];omega
 have hget:((kt++[kl]).map strD)[((kt.length:Nat):Int).toNat]?=some (strD kl):=by simp
 conv=>whnf
 refine known true (by rw[hlk];simp) ?_
 conv=>whnf
 refine mcall (T:=TM parM) (φ:=[]) (gf:=false) (x_next 4 [] (Nat.le_of_lt hk) hl (by simp)) ?_
 rw[hb4]
 conv=>whnf
 refine known true rfl ?_
 conv=>whnf
 refine⟨by omega,_,get_map tokD hk,?_⟩
 conv=>whnf
 rw[hw]
 conv=>whnf
 refine⟨by omega,by rw[hlk];simp,?_⟩
 conv=>whnf
 refine⟨_,hget,?_⟩
 have ho:Op.bytesLess kl l[k].text=true:=by
  rcases ho with ho|ho
  ·simp at ho
  ·simpa using ho
 conv=>whnf
 refine known false (by rw[mk_toList,mk_toList,bl_not,ho];rfl) ?_
 all_goals
  conv=>whnf
  refine⟨some planK1,by kernel_rfl,?_⟩
  conv=>whnf
  refine⟨.bx 52 3,fun m2 K2 hK=>hK,?_⟩
  conv=>whnf
  refine⟨?_,?_,trivial⟩
 all_goals
  conv=>whnf
  try refine⟨?_,trivial⟩
  conv=>whnf
  refine mcall (T:=TM parM) (φ:=[]) (gf:=false) (x_mustY (ts:=[]) hl (by simp) hb4 hk) ?_
  conv=>whnf
  refine⟨by rw[List.length_map];show(_+1)*16≤_;simp only[List.length_nil,List.length_append,List.length_cons] at*;omega,?_⟩
  conv=>whnf
  refine mcall (T:=TM parM) (φ:=[]) (gf:=false) (x_mustY (k:=k+1) (ts:=[sCl]) hl (by simp) hb5 hk2) ?_
  conv=>whnf
  refine⟨some planK2,by kernel_rfl,?_⟩
  conv=>whnf
  refine⟨.bx 52 4,fun m2 K2 hK=>hK,?_⟩
  conv=>whnf
  refine⟨?_,?_,trivial⟩
 all_goals
  conv=>whnf
  try refine⟨?_,trivial⟩
  conv=>whnf
  refine mcall (T:=TM parM) (φ:=[]) (gf:=false) c ?_
  conv=>whnf
  refine⟨by rw[List.length_map];show(js.length+1)*8≤_;omega,?_⟩
  conv=>whnf
  exact⟨rfl,by rw[e1];rfl,rfl⟩
end
end Go.Proofs.YtdccglkagfdooaaGreatDoor
