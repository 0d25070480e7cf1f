/- Texts joined by pack.py: XLx6 XLx7 XLx8 XLx9 XLx10 XIdn XHxA XSxAs -/
import Derived.Test.YtjmabkpcahmnpaaGreatDoorRz29
import Derived.Lib.ItoaMem
import Derived.Test.YtjmabkpcahmnpaaGreatDoorRows
import Derived.WalkKit
import Derived.WalkSpells
import Derived.WalkLawsBesides
import Derived.Lib.Hide
import Derived.Laws.RangeAny
import Derived.Test.YtjmabkpcahmnpaaGreatDoorRz13
import Derived.Test.YtjmabkpcahmnpaaGreatDoorRz22
import Derived.Test.YtjmabkpcahmnpaaGreatDoorRz11
import Derived.Lib.AppendStr
set_option maxHeartbeats 4000000
set_option maxRecDepth 100000
namespace Go.Proofs.YtjmabkpcahmnpaaGreatDoor
open Go.RowKit
theorem mk_fromI (l:Bs) (k:Nat):(mk l).extract ((k:Nat):Int).toNat (((mk l).size:Nat):Int).toNat=mk (l.drop k):=by
 rw[Int.toNat_natCast,Int.toNat_natCast,mk_size];exact mk_from l k
theorem idx_nl:∀(l:Bs),(Lib.indexByte l 10= -1∧skp true l=l.length)∨∃j:Nat,Lib.indexByte l 10=j∧j<l.length∧skp true l=j+skp false (l.drop j)∧l[j]?=some 10
 |[]=> .inl ⟨rfl,rfl⟩
 |c::l=>by
  by_cases hc:c=10
  ·subst hc
   exact .inr ⟨0,by simp[Lib.indexByte],by simp,by rw[List.drop_zero,skp_nl];simp,rfl⟩
  ·have hc':(c==10)=false:=by simpa using hc
   rcases idx_nl l with⟨h1,h2⟩|⟨j,h1,h2,h3,h4⟩
   ·exact .inl ⟨by simp[Lib.indexByte,hc,h1],by rw[skp_in hc',h2];rfl⟩
   ·refine .inr ⟨j+1,?_,by simpa using h2,by rw[skp_in hc',h3,List.drop_succ_cons];omega,by simpa using h4⟩
    simp only[Lib.indexByte,hc',h1]
    simp
theorem skip_com {l:Bs} (h:Lib.hasPrefix l [47,47]=true):skip l=skp true l∧l[0]?=some 47:=by
 match l,h with
 |[],h=>simp[Lib.hasPrefix] at h
 |[c],h=>simp[Lib.hasPrefix] at h
 |c::d::l,h=>
  simp[Lib.hasPrefix] at h
  obtain⟨rfl,rfl⟩:=h
  exact⟨by rw[show skip (47::47::l)=skp false (47::47::l) from rfl,skp_com rfl];simp[skp],rfl⟩
theorem skip_end {c:UInt8} {l:Bs} (h1:isBl c=false) (h:Lib.hasPrefix (c::l) [47,47]=false):skip (c::l)=0:=by
 refine skp_end h1 ?_
 cases l with
 |nil=>simp
 |cons d l=>
  rw[Bool.and_eq_false_iff]
  by_cases hc:c=47
  ·subst hc
   right
   by_cases hd:d=47
   ·subst hd
    rw[show Lib.hasPrefix (47::47::l) [47,47]=true by simp[Lib.hasPrefix]] at h;cases h
   ·simp[hd]
  ·left;simp[hc]
theorem x_skip (l:Bs) (hl:l.length<4611686018427387904):DCalls Tryz.prog 125 [bstr l] (int (skip l:Nat)):=by
 refine sx Tryz.func125 (by kernel_rfl) ?_
 conv=>whnf
 refine⟨[],Nat,fun k=>[(3,int k)],fun _=>[],fun k=>k≤l.length∧k+skip (l.drop k)=skip l,fun k=>l.length - k,0,⟨Nat.zero_le _,by simp⟩,?_,?_⟩
 ·refine⟨rfl,?_,?_⟩<;>repeat' (first|exact trivial|exact rfl|refine and_rfl ?_|refine and_two ?_ ?_)
 rintro k ⟨hk1,hk⟩
 conv=>whnf
 rintro(_|_) h2
 ·simp[mk_size] at h2
  rw[List.drop_eq_nil_of_le h2] at hk
  conv=>whnf
  exact fin_int (by simp[skp] at hk;omega)
 simp[mk_size] at h2
 have hdk:=drop_cons h2
 conv=>whnf
 refine⟨by omega,_,mk_at h2,?_⟩
 conv=>whnf
 refine⟨_,x_ofw l[k],?_⟩
 conv=>whnf
 rw[cls_bl]
 rintro(_|_) h3
 rotate_left
 ·rw[hdk,show skip (l[k]::l.drop (k+1))=skip (l.drop (k+1))+1 from skp_bl h3] at hk
  conv=>whnf
  refine⟨k+1,⟨by omega,by omega⟩,by dsimp only;omega,?_⟩
  refine⟨rfl,?_,?_⟩<;>repeat' (first|exact trivial|exact rfl|refine and_rfl ?_|refine and_val (wrap_succ (by omega)) ?_|refine and_two ?_ ?_)
 conv=>whnf
 refine⟨by omega,by rw[mk_size];omega,by omega,?_⟩
 rw[mk_fromI]
 conv=>whnf
 refine⟨_,x_hasPrefix (mk (l.drop k)) _,?_⟩
 conv=>whnf
 rintro(_|_) h4
 ·have h5:skip (l.drop k)=0:=by rw[hdk] at h4⊢;exact skip_end h3 h4
  conv=>whnf
  exact fin_int (by omega)
 obtain⟨h5,h6⟩:skip (l.drop k)=skp true (l.drop k)∧(l.drop k)[0]?=some 47:=skip_com h4
 conv=>whnf
 refine⟨by omega,by rw[mk_size];omega,by omega,?_⟩
 rw[mk_fromI]
 conv=>whnf
 refine⟨_,x_indexRune (mk (l.drop k)) 10 (by omega) (by omega),?_⟩
 have hidx:=idx_nl (l.drop k)
 rw[show Lib.indexByte (mk (l.drop k)).data.toList (10:Int).toNat.toUInt8=Lib.indexByte (l.drop k) 10 from rfl]
 rcases hidx with⟨e1,e2⟩|⟨j,e1,e2,e3,e4⟩
 ·rw[e1]
  conv=>whnf
  refine known true rfl ?_
  conv=>whnf
  exact fin_int (by rw[mk_size];simp only[List.length_drop] at e2;omega)
 ·rw[e1]
  conv=>whnf
  refine known false (by simp) ?_
  have hj:0<j:=by
   rcases Nat.eq_zero_or_pos j with e|e
   ·subst e;rw[h6] at e4;cases e4
   ·exact e
  simp only[List.length_drop] at e2
  rw[List.drop_drop] at e3
  conv=>whnf
  refine⟨k+j,⟨by omega,by rw[show skip (l.drop (k+j))=skp false (l.drop (k+j)) from rfl];omega⟩,by dsimp only;omega,?_⟩
  have hw:IntKind.i64.wrap ((k:Int)+(j:Int))=((k+j:Nat):Int):=by rw[IntWalk.i64_in _ (by omega)];rfl
  refine⟨rfl,?_,?_⟩<;>repeat' (first|exact trivial|exact rfl|refine and_rfl ?_|refine and_val hw ?_|refine and_two ?_ ?_)
theorem sEq_mk' {a b:Bs} {c:Bool} (h:sEq (mk a) (mk b)=c):(a==b)=c:=by rw[←h,sEq_mk]
theorem x_symbol (l:Bs) (hl:l.length<9223372036854775807):DCalls Tryz.prog 165 [bstr l] (boo (symB l)):=by
 refine sx Tryz.func165 (by kernel_rfl) ?_
 iterate 4 ((conv=>whnf);rintro(_|_) h;rotate_left;((conv=>whnf);exact fin_boo (by have h:=sEq_mk' h;unfold symB;rw[h];simp)))
 rename_i h1 h2 h3
 have h1:=sEq_mk' h1;have h2:=sEq_mk' h2;have h3:=sEq_mk' h3;have h4:=sEq_mk' h
 have e:symB l=(l.length==1&&l !=[33]&&isSy (l.headD 0)):=by unfold symB;rw[h1,h2,h3,h4];rfl
 conv=>whnf
 rintro(_|_) h5
 ·simp[mk_size] at h5
  conv=>whnf
  exact fin_boo (by rw[e,show(l.length==1)=false by simp;omega];rfl)
 simp[mk_size] at h5
 obtain⟨c,rfl⟩:∃c,l=[c]:=by
  match l,h5 with
  |[c],_=>exact⟨c,rfl⟩
 conv=>whnf
 rintro(_|_) h6
 ·have h6:(!sEq (mk [c]) (mk [33]))=false:=h6
  rw[sEq_mk] at h6
  conv=>whnf
  exact fin_boo (by rw[e];simp at h6;subst h6;rfl)
 have h6:(!sEq (mk [c]) (mk [33]))=true:=h6
 rw[sEq_mk] at h6
 conv=>whnf
 refine⟨by omega,_,(show(mk [c])[0]?=some c from rfl),?_⟩
 conv=>whnf
 refine⟨_,x_ofw c,?_⟩
 conv=>whnf
 exact fin_boo (by rw[cls_sy,e];simp at h6;simp[h6])
def sg:Bs:=[40,41,123,125,91,93,44,59,58,61,60,62,43,45,42,47,37]
theorem sym_sg (l:Bs) (h:l.length≠2):symB l=sg.any fun c=>l==[c]:=by
 match l,h with
 |[],_=>rfl
 |[c],_=>
  have:∀n:Fin 256,symB [UInt8.ofNat n.val]=sg.any fun c=>[UInt8.ofNat n.val]==[c]:=by decide+kernel
  have:=this ⟨c.toNat,c.toNat_lt⟩
  simpa using this
 |a::b::c::l,_=>
  have e:(sg.any fun d=>(a::b::c::l)==[d])=false:=by simp[sg]
  rw[e];unfold symB
  simp
end Go.Proofs.YtjmabkpcahmnpaaGreatDoor
namespace Go.Proofs.YtjmabkpcahmnpaaGreatDoor
open Go.RowKit
abbrev txV (p:Bs×Nat×Int):V:= .tu [bstr p.1,int p.2.1,int p.2.2]
theorem fin_tx {p q:Bs×Nat×Int} (h:p=q):txV p=txV q:=by rw[h]
theorem txt_bad {c:UInt8} {l:Bs} {i:Nat} {out:Bs} (h:(decide (c<32)||decide (c>126))=true):txt (c::l) i out=([],i,1):=by
 unfold txt;rw[if_pos h]
theorem txt_end {l:Bs} {i:Nat} {out:Bs}:txt (34::l) i out=(out,i+1,0):=by
 unfold txt;rfl
theorem txt_bs0 {i:Nat} {out:Bs}:txt [92] i out=([],i,1):=by unfold txt;rfl
theorem txt_bs1 {d:UInt8} {l:Bs} {i:Nat} {out:Bs} (h:(d==34||d==92)=false):txt (92::d::l) i out=([],i,1):=by
 rw[show txt (92::d::l) i out=if d==34||d==92 then(if out.length=200 then([],0,3) else txt l (i+2) (out++[d])) else([],i,1) by rw[txt];rfl,h];rfl
theorem txt_bs2 {d:UInt8} {l:Bs} {i:Nat} {out:Bs} (h:(d==34||d==92)=true):txt (92::d::l) i out=if out.length=200 then([],0,3) else txt l (i+2) (out++[d]):=by
 rw[show txt (92::d::l) i out=if d==34||d==92 then(if out.length=200 then([],0,3) else txt l (i+2) (out++[d])) else([],i,1) by rw[txt];rfl,h];rfl
theorem txt_go {c:UInt8} {l:Bs} {i:Nat} {out:Bs} (h:(decide (c<32)||decide (c>126))=false) (h1:c≠34) (h2:c≠92):txt (c::l) i out=if out.length=200 then([],0,3) else txt l (i+1) (out++[c]):=by
 conv=>lhs;unfold txt
 rw[if_neg (by rw[h];simp),if_neg (by simpa using h1),if_neg (by simpa using h2)]
theorem rangeB (c:UInt8):(decide (c<32)||decide (c>126))=(decide ((c.toNat:Int)<32)||decide ((c.toNat:Int)>126)):=by
 rw[u8_lt c 32,show decide (c>126)=decide ((126:UInt8)<c) from rfl,u8_lt 126 c];rfl
theorem x_text (l:Bs) (h0:0<l.length) (hl:l.length<4611686018427387904):DCalls Tryz.prog 164 [bstr l] (txV (txt (l.drop 1) 1 [])):=by
 refine sxm [(1000009,false)] Tryz.func164 (by kernel_rfl) ?_
 conv=>whnf
 refine⟨[(5,67,5,1)],Nat×Bs,fun⟨k,acc⟩=>[(6,int k),(5,.ow 67 0)],fun⟨k,acc⟩=>[(67,some (.row 0 5 1 true (acc.map byteD)))],fun⟨k,acc⟩=>k≤l.length∧acc.length≤200∧txt (l.drop k) k acc=txt (l.drop 1) 1 [],fun x=>l.length - x.1,(1,[]),⟨h0,by simp,rfl⟩,?_,?_⟩
 ·refine⟨rfl,?_,?_⟩<;>repeat' (first|exact trivial|exact rfl|refine and_rfl ?_|refine and_two ?_ ?_)
 rintro⟨k,acc⟩ ⟨hk1,hk2,hk⟩
 conv=>whnf
 rintro(_|_) h2
 ·simp[mk_size] at h2
  rw[List.drop_eq_nil_of_le h2] at hk
  conv=>whnf
  exact fin_tx (p:=([],0,1)) hk
 simp[mk_size] at h2
 rw[drop_cons h2] at hk
 conv=>whnf
 refine⟨by omega,_,mk_at h2,?_⟩
 conv=>whnf
 rw[wrap_u8]
 rintro(_|_) h3
 rotate_left
 ·conv=>whnf
  exact fin_tx (p:=([],k,1)) (by rw[←hk,txt_bad (by rw[rangeB];simp at*;omega)])
 conv=>whnf
 rintro(_|_) h4
 rotate_left
 ·conv=>whnf
  exact fin_tx (p:=([],k,1)) (by rw[←hk,txt_bad (by rw[rangeB];simp at*;omega)])
 have hr:(decide (l[k]<32)||decide (l[k]>126))=false:=by rw[rangeB];simp at*;omega
 clear h3 h4
 conv=>whnf
 rintro(_|_) h3
 rotate_left
 ·have h3' : l[k] = 34 := by have:(l[k]==34)=true:=by rw[u8_eq];simp at*;omega
                             simpa using this
  conv=>whnf
  refine⟨_,_,ot_string (e:=5) rfl rfl rfl (by kernel_rfl) (by kernel_rfl) (by kernel_rfl),?_⟩
  rw[h3',txt_end] at hk
  have hw:IntKind.i64.wrap ((k:Int)+1)=((k+1:Nat):Int):=wrap_succ (by omega)
  conv=>whnf
  rw[hw]
  exact fin_tx (p:=(acc,k+1,0)) hk
 have h34:l[k]≠34:=by intro e;rw[e] at h3;simp at h3
 conv=>whnf
 rintro(_|_) h4
 ·have h92:l[k]≠92:=by intro e;rw[e] at h4;simp at h4
  rw[txt_go hr h34 h92] at hk
  conv=>whnf
  rintro(_|_) h5
  rotate_left
  ·simp at h5
   rw[if_pos (by omega)] at hk
   conv=>whnf
   exact fin_tx (p:=([],0,3)) hk
  simp at h5
  rw[if_neg (by omega)] at hk
  conv=>whnf
  refine⟨by omega,_,mk_at h2,?_⟩
  conv=>whnf
  refine⟨by simp;omega,?_⟩
  conv=>whnf
  refine⟨(k+1,acc++[l[k]]),⟨h2,by simp;omega,hk⟩,by dsimp only;omega,?_⟩
  refine⟨rfl,?_,?_⟩<;>repeat' (first|exact trivial|exact rfl|refine and_rfl ?_|refine and_val (wrap_succ (by omega)) ?_|refine and_two ?_ ?_|(simp[byteD];done))
 have h92 : l[k] = 92 := by have:(l[k]==92)=true:=by rw[u8_eq];simp at*;omega
                            simpa using this
 rw[h92] at hk
 have hw:IntKind.i64.wrap ((k:Int)+1)=((k+1:Nat):Int):=wrap_succ (by omega)
 conv=>whnf
 rw[hw]
 rintro(_|_) h5
 rotate_left
 ·simp[mk_size] at h5
  rw[List.drop_eq_nil_of_le (by omega),txt_bs0] at hk
  conv=>whnf
  exact fin_tx (p:=([],k,1)) hk
 simp[mk_size] at h5
 have hk2':k+1<l.length:=by omega
 rw[drop_cons hk2'] at hk
 conv=>whnf
 refine⟨by rw[hw];omega,_,(by rw[hw];exact mk_at hk2'),?_⟩
 conv=>whnf
 rintro(_|_) h6
 ·have h34 : l[k + 1] = 34 := by have:(l[k+1]==34)=true:=by rw[u8_eq];simp at*;omega
                                 simpa using this
  rw[txt_bs2 (by rw[h34];rfl)] at hk
  conv=>whnf
  rw[hw]
  rintro(_|_) h8
  rotate_left
  ·simp at h8
   rw[if_pos (by omega)] at hk
   conv=>whnf
   exact fin_tx (p:=([],0,3)) hk
  simp at h8
  rw[if_neg (by omega)] at hk
  conv=>whnf
  refine⟨by omega,_,mk_at hk2',?_⟩
  conv=>whnf
  refine⟨by simp;omega,?_⟩
  conv=>whnf
  refine⟨(k+2,acc++[l[k+1]]),⟨by omega,by simp;omega,hk⟩,by dsimp only;omega,?_⟩
  refine⟨rfl,?_,?_⟩<;>repeat' (first|exact trivial|exact rfl|refine and_rfl ?_|refine and_val (wrap_succ (k:=k+1) (by omega)) ?_|refine and_two ?_ ?_|(simp[byteD];done))
 conv=>whnf
 refine⟨by rw[hw];omega,_,(by rw[hw];exact mk_at hk2'),?_⟩
 conv=>whnf
 rw[wrap_u8]
 have n34:(l[k+1]==34)=false:=by rw[u8_eq];simp at*;omega
 rintro(_|_) h7
 ·have h92 : l[k + 1] = 92 := by have:(l[k+1]==92)=true:=by rw[u8_eq];simp at*;omega
                                 simpa using this
  rw[txt_bs2 (by rw[h92];rfl)] at hk
  conv=>whnf
  rw[hw]
  rintro(_|_) h8
  rotate_left
  ·simp at h8
   rw[if_pos (by omega)] at hk
   conv=>whnf
   exact fin_tx (p:=([],0,3)) hk
  simp at h8
  rw[if_neg (by omega)] at hk
  conv=>whnf
  refine⟨by omega,_,mk_at hk2',?_⟩
  conv=>whnf
  refine⟨by simp;omega,?_⟩
  conv=>whnf
  refine⟨(k+2,acc++[l[k+1]]),⟨by omega,by simp;omega,hk⟩,by dsimp only;omega,?_⟩
  refine⟨rfl,?_,?_⟩<;>repeat' (first|exact trivial|exact rfl|refine and_rfl ?_|refine and_val (wrap_succ (k:=k+1) (by omega)) ?_|refine and_two ?_ ?_|(simp[byteD];done))
 ·have n92:(l[k+1]==92)=false:=by rw[u8_eq];simp at*;omega
  rw[txt_bs1 (by rw[n34,n92];rfl)] at hk
  conv=>whnf
  exact fin_tx (p:=([],k,1)) hk
end Go.Proofs.YtjmabkpcahmnpaaGreatDoor
namespace Go.Proofs.YtjmabkpcahmnpaaGreatDoor
open Go.RowKit
end Go.Proofs.YtjmabkpcahmnpaaGreatDoor
namespace Go.Proofs.YtjmabkpcahmnpaaGreatDoor
open Go.RowKit
theorem x_valid (n:Int):DCalls Tryz.prog 182 [int n] (boo (validB n)):=by
 refine sx Tryz.func182 (by kernel_rfl) ?_
 repeat' (first|exact fin_boo (by unfold validB;simp at*;omega)|((conv=>whnf);rintro(_|_) h))
def digs (d:Bs):Prop:=d≠[]∧∀c∈d,isDg c=true
def decB (d:Bs):Bool:= !(d.head? ==some 48&&d !=[48])
theorem dg_int {c:UInt8} (h:isDg c=true):48≤(c.toNat:Int)∧(c.toNat:Int)≤57:=by
 rw[isDg_int] at h;simpa using h
theorem digs_hd {d:Bs} (h:digs d):∃c r,d=c::r∧isDg c=true:=by
 match d,h with
 |c::r,h=>exact⟨c,r,rfl,h.2 c (by simp)⟩
theorem x_decimal (d:Bs) (h:digs d) (hl:d.length<9223372036854775807):DCalls Tryz.prog 190 [bstr d] (boo (decB d)):=by
 obtain⟨c,r,rfl,hc⟩:=digs_hd h
 have hci:=dg_int hc
 have h45:((c.toNat:Int)==45)=false:=beq_false_of_ne (by omega)
 refine sx Tryz.func190 (by kernel_rfl) ?_
 conv=>whnf
 refine known true (by rw[mk_size];simp) ?_
 conv=>whnf
 refine⟨by omega,_,(show(mk (c::r))[0]?=some c by rw[mk_get];rfl),?_⟩
 conv=>whnf
 refine known false h45 ?_
 conv=>whnf
 refine known false (show sEq (mk (c::r)) (mk [])=false by rw[sEq_mk];rfl) ?_
 conv=>whnf
 refine⟨by omega,_,(show(mk (c::r))[0]?=some c by rw[mk_get];rfl),?_⟩
 have hz:(c==48)=((c.toNat:Int)==48):=by rw[u8_eq];rfl
 conv=>whnf
 rintro(_|_) h1
 ·have hB:decB (c::r)=true:=by
   rw[h1] at hz
   have:c≠48:=by simpa using hz
   simp[decB,this]
  conv=>whnf
  refine⟨[],Nat,fun k=>[(29,int k)],fun _=>[],fun k=>k≤(c::r).length,fun k=>(c::r).length - k,0,Nat.zero_le _,?_,?_⟩
  ·refine⟨rfl,?_,?_⟩<;>repeat' (first|exact trivial|exact rfl|refine and_rfl ?_|refine and_two ?_ ?_)
  rintro k hk1
  conv=>whnf
  rintro(_|_) h2
  ·conv=>whnf
   exact fin_boo (by rw[hB])
  have h2:k<(c::r).length:=by simp only[mk_size] at h2;simp at h2⊢;omega
  have hdk:=dg_int (h.2 (c::r)[k] (List.getElem_mem h2))
  conv=>whnf
  refine⟨by omega,_,mk_at h2,?_⟩
  conv=>whnf
  refine known false (by simp only[decide_eq_false_iff_not];omega) ?_
  conv=>whnf
  refine⟨by omega,_,mk_at h2,?_⟩
  conv=>whnf
  refine known false (by simp only[decide_eq_false_iff_not];omega) ?_
  conv=>whnf
  refine⟨k+1,h2,by dsimp only;omega,?_⟩
  refine⟨rfl,?_,?_⟩<;>repeat' (first|exact trivial|exact rfl|refine and_rfl ?_|refine and_val (wrap_succ (by omega)) ?_|refine and_two ?_ ?_)
 have hc48:c=48:=by rw[h1] at hz;simpa using hz
 subst hc48
 conv=>whnf
 rintro(_|_) h3
 rotate_left
 ·have h3:(!sEq (mk (48::r)) (mk [48]))=true:=h3
  rw[sEq_mk] at h3
  conv=>whnf
  exact fin_boo (by simp at h3;simp[decB,h3])
 have h3:(!sEq (mk (48::r)) (mk [48]))=false:=h3
 rw[sEq_mk] at h3
 have hB:decB (48::r)=true:=by simp at h3;simp[decB,h3]
 generalize hcc:(48:UInt8)=c at*
 conv=>whnf
 refine⟨[],Nat,fun k=>[(29,int k)],fun _=>[],fun k=>k≤(c::r).length,fun k=>(c::r).length - k,0,Nat.zero_le _,?_,?_⟩
 ·refine⟨rfl,?_,?_⟩<;>repeat' (first|exact trivial|exact rfl|refine and_rfl ?_|refine and_two ?_ ?_)
 rintro k hk1
 conv=>whnf
 rintro(_|_) h2
 ·conv=>whnf
  exact fin_boo (by rw[hB])
 have h2:k<(c::r).length:=by simp only[mk_size] at h2;simp at h2⊢;omega
 have hdk:=dg_int (h.2 (c::r)[k] (List.getElem_mem h2))
 conv=>whnf
 refine⟨by omega,_,mk_at h2,?_⟩
 conv=>whnf
 refine known false (by simp only[decide_eq_false_iff_not];omega) ?_
 conv=>whnf
 refine⟨by omega,_,mk_at h2,?_⟩
 conv=>whnf
 refine known false (by simp only[decide_eq_false_iff_not];omega) ?_
 conv=>whnf
 refine⟨k+1,h2,by dsimp only;omega,?_⟩
 refine⟨rfl,?_,?_⟩<;>repeat' (first|exact trivial|exact rfl|refine and_rfl ?_|refine and_val (wrap_succ (by omega)) ?_|refine and_two ?_ ?_)
end Go.Proofs.YtjmabkpcahmnpaaGreatDoor
namespace Go.Proofs.YtjmabkpcahmnpaaGreatDoor
open Go.RowKit
theorem dval_ge:∀(l:Bs) (n:Nat),n≤dval l n
 |[],n=>Nat.le_refl _
 |c::l,n=>by
  have:=dval_ge l (10*n+(c.toNat - 48))
  simp only[dval];omega
theorem parseUint_digs:∀(l:Bs) (n:Nat),(∀c∈l,isDg c=true)→n<18446744073709551616→Lib.parseUint10 n l=if dval l n<18446744073709551616 then .ok (dval l n) else .range
 |[],n,_,hn=>by rw[show dval [] n=n from rfl,if_pos hn];rfl
 |c::l,n,h,hn=>by
  have hc:=dg_int (h c (by simp))
  have hge:=dval_ge l (10*n+(c.toNat - 48))
  rw[show dval (c::l) n=dval l (10*n+(c.toNat - 48)) from rfl]
  simp only[Lib.parseUint10]
  rw[if_pos (by omega)]
  split
  ·rw[if_neg (by omega)]
  ·split
   ·rw[if_neg (by omega)]
   ·rw[Nat.mul_comm n 10]
    exact parseUint_digs l _ (fun c hc=>h c (by simp[hc])) (by omega)
theorem atoi_digs (d:Bs) (h:digs d):Lib.atoiAll d=if dval d 0<9223372036854775808 then .ok (dval d 0:Int) else .range:=by
 obtain⟨c,r,rfl,hc⟩:=digs_hd h
 have hci:=dg_int hc
 have h45:¬c.toNat=45:=by omega
 have h43:¬c.toNat=43:=by omega
 unfold Lib.atoiAll
 simp only[h45,h43,or_self,if_false]
 unfold Lib.parseMag
 rw[if_neg (by simp),parseUint_digs _ 0 h.2 (by omega)]
 by_cases hv:dval (c::r) 0<18446744073709551616
 ·rw[if_pos hv]
  by_cases hv2:dval (c::r) 0<9223372036854775808
  ·rw[if_pos hv2];simp[hv2]
  ·rw[if_neg hv2];simp;omega
 ·rw[if_neg hv,if_neg (by omega)]
theorem decB_pnum (d:Bs) (h:digs d):pnum d=if decB d=false then(0,1) else if dval d 0>1000000000000 then(0,2) else((dval d 0:Int),0):=by
 obtain⟨c,r,rfl,hc⟩:=digs_hd h
 have:(decB (c::r)=false)↔((c::r).length>1∧(c::r).head?=some 48):=by
  unfold decB
  simp
  constructor
  ·rintro⟨rfl,h⟩
   refine⟨?_,rfl⟩
   cases r with
   |nil=>simp at h
   |cons=>simp
  ·rintro⟨hr,rfl⟩
   refine⟨rfl,?_⟩
   cases r with
   |nil=>simp at hr
   |cons=>simp
 unfold pnum
 by_cases hd:decB (c::r)=false
 ·rw[if_pos hd,if_pos (this.1 hd)]
 ·rw[if_neg hd,if_neg (fun e=>hd (this.2 e))]
theorem DCalls.vals {P:Program} {f:FuncId} {us:List Value} {v:Value} (h:DCalls P f (us.map .cv) (.cv v)) {w:World} (hg:ginv w):Calls P f us.toArray w fun e w'=>e= .returned v∧Below w.heap.size w w':=by
 refine(h.2 w us hg ⟨by simp,fun i x hx=>?_⟩).mono ?_
 ·rw[List.getElem?_map,Option.map_eq_some_iff] at hx
  obtain⟨u,hu,rfl⟩:=hx
  rw[List.getD_eq_getElem?_getD,hu]
  exact .cv _
 ·rintro e w' ⟨v',rfl,h1,h2⟩
  cases h1
  exact⟨rfl,h2⟩
theorem ginv_below {w w':World} (h:ginv w) (hb:Below w.heap.size w w'):ginv w':=ginv_low h (fun _ hg=>ginv_lt h hg) hb.block
theorem atoi_ok (d:Bs) (h:digs d) (hl:d.length≤281474976710656) (hv:dval d 0<9223372036854775808) (w:World):
  Calls Tryz.prog 191 #[.string (mk d)] w fun e w'=>e= .returned (.tuple #[.int .i64 (dval d 0:Nat),.nilIface])∧Below w.heap.size w w':=by
 refine(Tryz.strconv_Atoi_ok (mk d) (by rw[mk_size];omega) (dval d 0:Nat) (by rw[show(mk d).data.toList=d from rfl,atoi_digs d h,if_pos hv]) w).mono ?_
 rintro e w' ⟨rfl,hw⟩
 refine⟨rfl,?_⟩
 rcases hw with rfl|⟨t,rfl⟩
 ·exact Below.refl _ _
 ·exact Lib.bytesWorld_below _ _ _
theorem atoi_range (d:Bs) (h:digs d) (hl:d.length≤281474976710656) (hv:¬dval d 0<9223372036854775808) (w:World) (hg:ginv w):
  Calls Tryz.prog 191 #[.string (mk d)] w fun e w'=>∃n t N,e= .returned (.tuple #[.int .i64 n,.iface t (.pointer (some ⟨N,0,none⟩))])∧Below w.heap.size w w':=by
 obtain⟨⟨ev,h1,h2⟩,_⟩:=hg
 refine(Tryz.strconv_Atoi_range (mk d) (by rw[mk_size];omega) (by rw[show(mk d).data.toList=d from rfl,atoi_digs d h,if_neg hv]) ev w h1 h2).mono ?_
 rintro e w' ⟨N,rfl,_,_,hb⟩
 exact⟨_,_,N,rfl,hb⟩
theorem parse_any (d:Bs) (h:digs d) (hl:d.length≤281474976710656) (w:World) (hg:ginv w):
  Calls Tryz.prog 163 #[.string (mk d)] w fun e w'=>e= .returned (.tuple #[.int .i64 (pnum d).1,.int .i64 (pnum d).2])∧Below w.heap.size w w':=by
 have c1:=(DCalls.vals (us:=[.string (mk d)]) (x_decimal d h (by omega)) hg)
 have hp:=decB_pnum d h
 cases hd:decB d with
 |false=>
  rw[hd] at c1
  rw[if_pos hd] at hp
  rw[hp]
  clear hp
  go_enter Tryz.func163,Tryz.ntmps163
  go_wp2_with (go_at_call 190;refine c1.mono ?_;rintro e W1 ⟨rfl,hb1⟩)
  go_ret2
  exact⟨rfl,hb1⟩
 |true=>
  rw[hd] at c1
  rw[if_neg (by rw[hd];simp)] at hp
  rw[hp]
  clear hp
  by_cases hv:dval d 0<9223372036854775808
  ·have c2:=atoi_ok d h hl hv
   have c3:∀W,ginv W→_:=fun W hW=>DCalls.vals (us:=[.int .i64 (dval d 0:Nat)]) (x_valid (dval d 0:Nat)) (w:=W) hW
   have hvb:validB (dval d 0:Nat)=decide (¬dval d 0>1000000000000):=by unfold validB;rw[Bool.eq_iff_iff];simp;omega
   rw[hvb] at c3
   by_cases hm:dval d 0>1000000000000
   ·rw[if_pos hm]
    rw[show decide (¬dval d 0>1000000000000)=false by simpa using hm] at c3
    generalize dval d 0=v at*
    go_enter Tryz.func163,Tryz.ntmps163
    go_wp2_with (first
     |go_at_call 190;refine c1.mono ?_;rintro e W1 ⟨rfl,hb1⟩
     |go_at_call 191;refine(c2 _).mono ?_;rintro e W2 ⟨rfl,hb2⟩
     |go_at_call 182;refine(c3 _ (ginv_below (ginv_below hg (by assumption)) (by assumption))).mono ?_;rintro e W3 ⟨rfl,hb3⟩)
    go_ret2
    exact⟨rfl,hb1.trans ((hb2.trans (hb3.mono hb2.size)).mono hb1.size)⟩
   ·rw[if_neg hm]
    rw[show decide (¬dval d 0>1000000000000)=true by simpa using hm] at c3
    generalize dval d 0=v at*
    go_enter Tryz.func163,Tryz.ntmps163
    go_wp2_with (first
     |go_at_call 190;refine c1.mono ?_;rintro e W1 ⟨rfl,hb1⟩
     |go_at_call 191;refine(c2 _).mono ?_;rintro e W2 ⟨rfl,hb2⟩
     |go_at_call 182;refine(c3 _ (ginv_below (ginv_below hg (by assumption)) (by assumption))).mono ?_;rintro e W3 ⟨rfl,hb3⟩)
    go_ret2
    exact⟨rfl,hb1.trans ((hb2.trans (hb3.mono hb2.size)).mono hb1.size)⟩
  ·have c2:=atoi_range d h hl hv
   rw[if_pos (by omega)]
   generalize dval d 0=v at*
   go_enter Tryz.func163,Tryz.ntmps163
   go_wp2_with (first
    |go_at_call 190;refine c1.mono ?_;rintro e W1 ⟨rfl,hb1⟩
    |go_at_call 191;refine(c2 _ (ginv_below hg (by assumption))).mono ?_;rintro e W2 ⟨n,t,N,rfl,hb2⟩)
   go_ret2
   exact⟨rfl,hb1.trans (hb2.mono hb1.size)⟩
theorem x_parse (d:Bs) (h:digs d) (hl:d.length≤281474976710656):DCalls Tryz.prog 163 [bstr d] (.tu [int (pnum d).1,int (pnum d).2]):=
 dcalls_val Tryz.func163 (by kernel_rfl) (by kernel_rfl) rfl rfl fun w hg=>parse_any d h hl w hg
theorem x_itoa (n:Int) (h0: -9223372036854775808≤n) (h1:n≤9223372036854775807):DCalls Tryz.prog 69 [int n] (bstr (Lib.itoa n)):=
 dcalls_val Tryz.func69 (by kernel_rfl) (by kernel_rfl) rfl rfl fun w hg=>(Tryz.strconv_Itoa n h0 h1 w hg.2.1).mono fun e w' ⟨h1,k,os,h2⟩=>⟨h1,by
  rw[h2]
  refine⟨rfl,rfl,rfl,by simp[Sort.grow],fun i hi=>?_⟩
  show((w.drewN k).heap++os)[i]?=_
  rw[Array.getElem?_append_left (by show i<w.heap.size;omega)]
  rfl⟩
theorem x_format (n:Int) (h0: -9223372036854775808≤n) (h1:n≤9223372036854775807):DCalls Tryz.prog 50 [int n] (bstr (Lib.itoa n)):=by
 refine sx Tryz.func50 (by kernel_rfl) ?_
 conv=>whnf
 refine⟨_,x_itoa n h0 h1,?_⟩
 rfl
end Go.Proofs.YtjmabkpcahmnpaaGreatDoor
namespace Go.Proofs.YtjmabkpcahmnpaaGreatDoor
open Go.RowKit
theorem retb {a b:Bool} (h:a=b):Ending.returned (.bool a)= .returned (.bool b):=by rw[h]
def smallI (c:Int):Bool:=decide (97≤c)&&decide (c≤122)
def digitI (c:Int):Bool:=decide (48≤c)&&decide (c≤57)
theorem small_any (c:Int) (w:World):
  Calls Tryz.prog 62 #[.int .i32 c] w fun e w'=>e= .returned (.bool (smallI c))∧w=w':=by
 go_enter Tryz.func62,Tryz.ntmps62
 go_wp2
 all_goals
  go_ret
  exact⟨retb (by simp[smallI];try omega),rfl⟩
theorem digit_any (c:Int) (w:World):
  Calls Tryz.prog 63 #[.int .i32 c] w fun e w'=>e= .returned (.bool (digitI c))∧w=w':=by
 go_enter Tryz.func63,Tryz.ntmps63
 go_wp2
 all_goals
  go_ret
  exact⟨retb (by simp[digitI];try omega),rfl⟩
def nameWC (first:Bool) (c:Int):Bool:=smallI c||(!first&&(digitI c||c==45||c==95))
def nameW (s:ByteArray):Bool:=(List.range s.size).all (fun i=>nameWC (i==0) (s.get! i).toNat)&&(decide (1≤s.size)&&decide (s.size≤24))
theorem nameWC_high (f:Bool) (c:Int) (h:128≤c):nameWC f c=false:=by
 simp[nameWC,smallI,digitI];omega
theorem get_bang (s:ByteArray) (i:Nat) (h:i<s.size):s.get! i=s[i]:=by
 have:=get_at s i h
 simpa using this
theorem all_no (s:ByteArray) (f:Nat→Int→Bool) (x:Bool) (i:Nat) (h:i<s.size) (hn:f i s[i].toNat=false):((List.range s.size).all (fun i=>f i (s.get! i).toNat)&&x)=false:=by
 have:((List.range s.size).all (fun i=>f i (s.get! i).toNat))=false:=by
  rw[Bool.eq_false_iff]
  intro hh
  rw[List.all_eq_true] at hh
  have:=hh i (List.mem_range.2 h)
  rw[get_bang s i h,hn] at this
  cases this
 rw[this];rfl
theorem all_yes (s:ByteArray) (f:Nat→Int→Bool) (x:Bool) (hy:∀i (h:i<s.size),f i s[i].toNat=true):((List.range s.size).all (fun i=>f i (s.get! i).toNat)&&x)=x:=by
 have:((List.range s.size).all (fun i=>f i (s.get! i).toNat))=true:=by
  rw[List.all_eq_true]
  intro i hi
  have h:=List.mem_range.1 hi
  rw[get_bang s i h]
  exact hy i h
 rw[this];rfl
theorem rune_step (s:ByteArray) (pos:Nat) (hp:pos<s.size) (f:Int→Bool) (hf:∀c,128≤c→f c=false):
  (f (Utf8.decode s pos).1=false→f s[pos].toNat=false)∧(f (Utf8.decode s pos).1=true→f s[pos].toNat=true∧(Utf8.decode s pos).2=1):=by
 by_cases ha:s[pos].toNat<128
 ·rw[decode_ascii s pos hp ha];exact⟨fun h=>h,fun h=>⟨h,rfl⟩⟩
 ·have h:=decode_high s pos hp (by omega)
  rw[hf (Utf8.decode s pos).1 (by omega),hf s[pos].toNat (by omega)]
  exact⟨fun h=>h,fun h=>by cases h⟩
theorem ext_ok {s:ByteArray} {f:Nat→Int→Bool} {pos n:Nat} (hp:pos<s.size) (hall:∀i (h:i<s.size),i<pos→f i s[i].toNat=true) (h1:f pos s[pos].toNat=true∧n=1):
  pos+n≤s.size∧∀i (h:i<s.size),i<pos+n→f i s[i].toNat=true:=by
 obtain⟨h1,rfl⟩:=h1
 refine⟨by omega,fun i h hi=>?_⟩
 by_cases e:i=pos
 ·subst e;exact h1
 ·exact hall i h (by omega)
theorem iname_any (s:ByteArray) (w:World) (hs:s.size≤maxLen):
  Calls Tryz.prog 43 #[.string s] w fun e w'=>e= .returned (.bool (nameW s))∧Below w.heap.size w w':=by
 unfold maxLen at hs
 go_enter Tryz.func43,Tryz.ntmps43
 go_wp2_with fail
 go_loopw [3,4] (fun _ _ w'=>∃pos:Nat,w'=w.iter s pos∧pos≤s.size∧∀i (h:i<s.size),i<pos→nameWC (i==0) s[i].toNat=true) (fun _ _ w'=>s.size - w'.iterPos w.heap.size)
 case atStart=>exact⟨0,rfl,Nat.zero_le _,fun i h h0=>absurd h0 (by omega)⟩
 case round=>
  obtain⟨pos,rfl,hle,hall⟩:=hrel
  have Hall:=Lib.hid hall;clear hall
  by_cases hp:pos<s.size
  ·have hnx:∀ty,(Instr.next (.pointer (some ⟨w.heap.size,0,none⟩)) true ty).run Tryz.prog (w.iter s pos)=_:=fun ty=>run_next_any w s pos ty hp
   have st:=rune_step s pos hp (nameWC (pos==0)) (nameWC_high _)
   generalize hd:Utf8.decode s pos=d at st hnx
   clear hd
   obtain⟨c,n⟩:=d
   simp only at st hnx
   have St:=Lib.hid st;clear st
   go_wp2_with (first
    |(go_at_call 62;refine(small_any _ _).mono ?_;rintro e w' ⟨rfl,rfl⟩)
    |(go_at_call 63;refine(digit_any _ _).mono ?_;rintro e w' ⟨rfl,rfl⟩))
   all_goals
    first
     | (have hbad:nameWC (pos==0) c=false:=by(simp_all [nameWC];done)
        go_ret
        exact⟨retb (all_no s (fun i=>nameWC (i==0)) _ pos hp (St.out.1 hbad)).symm,(Below.refl _ _).alloc (Nat.le_refl _) _⟩)
     | (have hgood:nameWC (pos==0) c=true:=by(simp_all [nameWC];done)
        have hx:=ext_ok (f:=fun i=>nameWC (i==0)) hp Hall.out (St.out.2 hgood)
        have h1:=(St.out.2 hgood).2
        clear hgood
        go_roundw
        case rel=>exact⟨pos+n,rfl,hx⟩
        case measure=>simp;omega)
  ·have hnx:∀ty,(Instr.next (.pointer (some ⟨w.heap.size,0,none⟩)) true ty).run Tryz.prog (w.iter s pos)=_:=fun ty=>run_next_end w s pos ty hp
   go_wp2
   all_goals
    go_ret
    refine⟨retb (Eq.trans ?_ (all_yes s (fun i=>nameWC (i==0)) _ (fun i h=>Hall.out i h (by omega))).symm),(Below.refl _ _).alloc (Nat.le_refl _) _⟩
    first
     |(simp;done)
     |(simp;omega)
     |(rw[Bool.eq_iff_iff];simp;omega)
end Go.Proofs.YtjmabkpcahmnpaaGreatDoor
namespace Go.Proofs.YtjmabkpcahmnpaaGreatDoor
open Go.RowKit
theorem pow16_any (w:World):Calls Tryz.prog 141 #[.int .i64 16] w fun e w'=>e= .returned (.bool true)∧w'=w:=by
 go_enter Tryz.func141,Tryz.ntmps141
 go_wp2
 all_goals
  go_ret
  exact⟨rfl,rfl⟩
theorem key16:IntKind.u64.wrap (bits BinOp.and IntKind.u64 16 (IntKind.u64.wrap (-16))*285870213051353865) / 288230376151711744=15:=by decide+kernel
theorem tz64_any (w:World) (hc:w.cell? ⟨4,15,none⟩=some (.int .u8 4)):Calls Tryz.prog 177 #[.int .u64 16] w fun e w'=>e= .returned (.int .i64 4)∧w'=w:=by
 go_enter Tryz.func177,Tryz.ntmps177
 go_wp2_with (simp only[key16])
 all_goals
  go_ret
  exact⟨rfl,rfl⟩
theorem tz_any (w:World) (hc:w.cell? ⟨4,15,none⟩=some (.int .u8 4)):Calls Tryz.prog 142 #[.int .u64 16] w fun e w'=>e= .returned (.int .i64 4)∧w'=w:=by
 go_enter Tryz.func142,Tryz.ntmps142
 go_wp2_with (go_at_call 177;refine(tz64_any _ hc).mono ?_;rintro e w' ⟨rfl,rfl⟩)
 all_goals
  go_ret
  exact⟨rfl,rfl⟩
def digH (n:Nat):UInt8:=if n<10 then UInt8.ofNat (48+n) else UInt8.ofNat (87+n)
def hexF:Nat→Nat→Bs→Bs
 |0,u,acc=>digH u::acc
 |f+1,u,acc=>if u<16 then digH u::acc else hexF f (u / 16) (digH (u % 16)::acc)
def hexB (u:Nat):Bs:=hexF 16 u []
theorem digs_get (n:Nat) (h:n<(⟨#[48,49,50,51,52,53,54,55,56,57,97,98,99,100,101,102,103,104,105,106,107,108,109,110,111,112,113,114,115,116,117,118,119,120,121,122]⟩:ByteArray).size):(⟨#[48,49,50,51,52,53,54,55,56,57,97,98,99,100,101,102,103,104,105,106,107,108,109,110,111,112,113,114,115,116,117,118,119,120,121,122]⟩:ByteArray)[n]=digH n:=by
 have:∀n,(h:n<(⟨#[48,49,50,51,52,53,54,55,56,57,97,98,99,100,101,102,103,104,105,106,107,108,109,110,111,112,113,114,115,116,117,118,119,120,121,122]⟩:ByteArray).size)→(⟨#[48,49,50,51,52,53,54,55,56,57,97,98,99,100,101,102,103,104,105,106,107,108,109,110,111,112,113,114,115,116,117,118,119,120,121,122]⟩:ByteArray)[n]=digH n:=by decide+kernel
 exact this n h
theorem and15 (v:Nat) (hv:v<18446744073709551616):bits BinOp.and IntKind.u64 (v:Int) 15=((v % 16:Nat):Int):=by
 have h1:(BitVec.ofInt 64 (v:Int)).toNat=v:=by
  rw[BitVec.ofInt_natCast,BitVec.toNat_ofNat];exact Nat.mod_eq_of_lt (by omega)
 have h2:(BitVec.ofInt 64 (15:Int)).toNat=15:=by decide
 show IntKind.u64.wrap ((BitVec.ofInt 64 (v:Int)&&& BitVec.ofInt 64 (15:Int)).toNat:Int)=_
 rw[BitVec.toNat_and,h1,h2,IntKind.wrap_u64,show v&&& 15=v % 16 from Nat.and_two_pow_sub_one_eq_mod v 4]
 omega
structure HexSt (u v i:Nat) (acc:Bs) (cs:Array Value):Prop where
 size:cs.size=65
 lo:49<i
 hi:i≤65
 lt:v<16 ^ (i - 49)
 len:acc.length=65 - i
 cells:∀j (hj:j<acc.length),cs[i+j]?=some (.int .u8 (acc[j].toNat:Int))
 res:hexF (i - 49) v acc=hexB u
theorem HexSt.put {u v i:Nat} {acc:Bs} {cs:Array Value} (h:HexSt u v i acc cs) (d:UInt8):∀j (hj:j<(d::acc).length),(cs.setIfInBounds (i - 1) (.int .u8 (d.toNat:Int)))[i - 1+j]?=some (.int .u8 ((d::acc)[j].toNat:Int)):=by
 intro j hj
 have h1:=h.size
 have h2:=h.lo
 have h3:=h.hi
 cases j with
 |zero=>
  rw[Nat.add_zero,Array.getElem?_setIfInBounds_self_of_lt (by omega)]
  rfl
 |succ j=>
  have hj':j<acc.length:=by simpa using hj
  rw[Array.getElem?_setIfInBounds_ne (by omega),show i - 1+(j+1)=i+j by omega,h.cells j hj']
  rfl
theorem HexSt.step {u v i:Nat} {acc:Bs} {cs:Array Value} (h:HexSt u v i acc cs) (hv:16≤v):HexSt u (v / 16) (i - 1) (digH (v % 16)::acc) (cs.setIfInBounds (i - 1) (.int .u8 ((digH (v % 16)).toNat:Int))):=by
 have h2:=h.lo
 have h3:=h.hi
 have hl:=h.lt
 obtain⟨k,rfl⟩:∃k,i=k+50:=⟨i - 50,by omega⟩
 have hk:k≠0:=by rintro rfl;simp at hl;omega
 refine⟨by rw[Array.size_setIfInBounds];exact h.size,by omega,by omega,?_,by have:=h.len;simp;omega,h.put _,?_⟩
 ·rw[show k+50 - 1 - 49=k by omega]
  rw[show k+50 - 49=k+1 by omega,Nat.pow_succ] at hl
  omega
 ·have:=h.res
  rw[show k+50 - 49=k+1 by omega] at this
  rw[show k+50 - 1 - 49=k by omega,←this]
  simp only[hexF]
  rw[if_neg (by omega)]
theorem HexSt.fin {u v i:Nat} {acc:Bs} {cs:Array Value} (h:HexSt u v i acc cs) (hv:v<16):hexB u=digH v::acc:=by
 have h2:=h.lo
 obtain⟨k,rfl⟩:∃k,i=k+50:=⟨i - 50,by omega⟩
 have:=h.res
 rw[show k+50 - 49=k+1 by omega] at this
 rw[←this]
 simp only[hexF]
 rw[if_pos hv]
theorem fmtb_any (dst:Value) (u:Nat) (hu:u<18446744073709551616) (w:World) (hg:ginv w):
  Calls Tryz.prog 106 #[dst,.int .u64 u,.int .i64 16,.bool false,.bool false] w fun e w'=>e= .returned (.tuple #[.slice none 0 0,.string (mk (hexB u))])∧Below w.heap.size w w':=by
 have hc:∀o,(w.alloc o).cell? ⟨4,15,none⟩=some (.int .u8 4):=by
  intro o
  obtain⟨h1,h2⟩:=ginv_cells hg (g:=4) rfl
  have h3:=h2 15 (.int .u8 4) rfl
  unfold World.cell? at h3⊢
  rw[RowKit.Below.heap_alloc w o _ h1]
  exact h3
 go_enter Tryz.func106,Tryz.ntmps106
 go_wp2_with (first
  |(go_at_call 141;refine(pow16_any _).mono ?_;rintro e w' ⟨rfl,rfl⟩)
  |(go_at_call 142;refine(tz_any _ (hc _)).mono ?_;rintro e w' ⟨rfl,rfl⟩))
 go_loopw [1,13] (fun vu vi wr=>∃(v i:Nat) (acc:Bs) (cs:Array Value),vu= .int .u64 v∧vi= .int .i64 i∧wr=w.alloc (.cells cs 225)∧HexSt u v i acc cs) (fun _ vi _=>(match vi with| .int _ n=>n.toNat|_=>0))
 case atStart=>exact⟨u,65,[],_,rfl,rfl,rfl,⟨by kernel_rfl,by decide,by decide,hu,rfl,fun j hj=>absurd hj (by simp),rfl⟩⟩
 case round=>
  obtain⟨v,i,acc,cs,rfl,rfl,rfl,hst⟩:=hrel
  have h1:=hst.size
  have h2:=hst.lo
  have h3:=hst.hi
  have Hst:=Lib.hid hst;clear hst
  have hidx:((i:Int) - 1).toNat=i - 1:=by omega
  have hcell:∃x,cs[i - 1]?=some x:=⟨cs[i - 1],Array.getElem?_eq_getElem (by omega)⟩
  obtain⟨x,hx⟩:=hcell
  have hv64:v<18446744073709551616:=by
   have h4:=Hst.out.lt
   have h5:=Nat.pow_le_pow_right (n:=16) (by decide) (show i - 49≤16 by omega)
   have h6:(16:Nat) ^ 16=18446744073709551616:=by decide+kernel
   omega
  have ha:=and15 v hv64
  have hm:v % 16<16:=Nat.mod_lt _ (by decide)
  by_cases hv:16≤v
  ·generalize hq:v % 16=q at ha hm
   go_wp2_with (simp only[ha])
   ·simp only[digs_get]
    refine⟨⟨v / 16,i - 1,digH q::acc,_,?_,?_,rfl,?_⟩,?_⟩
    ·congr 1
    ·congr 1;omega
    ·rw[←hq];exact Hst.out.step (by omega)
    ·omega
  ·have hv:v<16:=by omega
   have hfin:=Hst.out.fin hv
   have hput:=Hst.out.put (digH v)
   have hlen:=Hst.out.len
   rw[←hfin] at hput
   have hhl:(hexB u).length=66 - i:=by rw[hfin];simp;omega
   have hal:Tryz.prog.arrayLen 225=65:=by kernel_rfl
   have hsl:∀W,(Instr.sliceAt 225 (.pointer (some ⟨w.heap.size,0,none⟩)) (some (.int .i64 ((i:Int) - 1))) none none).run Tryz.prog W= .ok (.slice (some ⟨w.heap.size,i - 1,none⟩) (66 - i) (66 - i)) W:=fun W=>by
    rw[run_sliceAt_array_l W 225 ⟨w.heap.size,0,none⟩ (by kernel_rfl) .i64 ((i:Int) - 1) (by omega) (by rw[hal];omega)]
    go_simp
    omega
   have hcv:=run_convert_bytes_back (P:=Tryz.prog) (w.alloc (.cells (cs.setIfInBounds (i - 1) (.int .u8 ((digH v).toNat:Int))) 225)) 132 9 5 ⟨w.heap.size,i - 1,none⟩ (66 - i) (hexB u) Tryz.underlying132 Tryz.underlying5 Tryz.underlying9 (fun j hj=>by
    rw[Lib.add_plain,World.cell?_alloc_new]
    exact hput j hj)
   rw[hhl] at hcv
   have hd:=digs_get v (by rw[show(⟨#[48,49,50,51,52,53,54,55,56,57,97,98,99,100,101,102,103,104,105,106,107,108,109,110,111,112,113,114,115,116,117,118,119,120,121,122]⟩:ByteArray).size=36 from rfl];omega)
   clear hput hhl hlen hfin
   go_wp2
   all_goals
    go_ret2
    exact⟨rfl,(Below.refl _ _).alloc (Nat.le_refl _) _⟩
theorem x_fmtb (u:Nat) (hu:u<18446744073709551616):DCalls Tryz.prog 106 [.sl true 1 [],.cv (.int .u64 u),int 16,boo false,boo false] (.tu [.cv (.slice none 0 0),bstr (hexB u)]):=by
 refine⟨⟨_,Tryz.func106,by kernel_rfl,by kernel_rfl⟩,fun w vs hi hvs=>?_⟩
 obtain⟨v0,v1,v2,v3,v4,rfl⟩:∃v0 v1 v2 v3 v4,vs=[v0,v1,v2,v3,v4]:=by
  have:=hvs.1
  match vs,this with
  |[a,b,c,d,e],_=>exact⟨a,b,c,d,e,rfl⟩
 have r1:=hvs.2 1 _ rfl
 have r2:=hvs.2 2 _ rfl
 have r3:=hvs.2 3 _ rfl
 have r4:=hvs.2 4 _ rfl
 simp only[List.getD_eq_getElem?_getD,List.getElem?_cons_zero,List.getElem?_cons_succ,Option.getD_some] at r1 r2 r3 r4
 cases r1;cases r2;cases r3;cases r4
 refine(fmtb_any v0 u hu w hi).mono ?_
 rintro e w' ⟨rfl,hb⟩
 exact⟨_,rfl,.tu _ _ (by simp) (by
  intro i x hx
  match i,hx with
  |0,hx=>cases hx;exact .cv _
  |1,hx=>cases hx;exact .cv _),hb⟩
theorem x_fmtI (u:Nat) (hu:u<18446744073709551616):DCalls Tryz.prog 73 [.cv (.int .u64 u),int 16] (bstr (hexB u)):=by
 refine sx Tryz.func73 (by kernel_rfl) ?_
 conv=>whnf
 refine known false rfl ?_
 conv=>whnf
 refine⟨_,x_fmtb u hu,?_⟩
 (conv=>whnf)<;>rfl
theorem x_fmtU (u:Nat) (hu:u<18446744073709551616):DCalls Tryz.prog 52 [.cv (.int .u64 u),int 16] (bstr (hexB u)):=by
 refine sx Tryz.func52 (by kernel_rfl) ?_
 conv=>whnf
 refine⟨_,x_fmtI u hu,?_⟩
 (conv=>whnf)<;>rfl
end Go.Proofs.YtjmabkpcahmnpaaGreatDoor
namespace Go.Proofs.YtjmabkpcahmnpaaGreatDoor
open Go.RowKit
section
variable {P:Program} {o:Oper} {E:Operand→V} {m:List (Option Bk)} {x y:Operand}
theorem ot_appendS {n k:Nat} {f:Bool} {l:List UInt8} {s:ByteArray} {c:Call} {ty tu e:TypeId} (ho:o.op= .call c) (hc:c.callee= .builtin .append) (hargs:c.args.toList=[x,y]) (htys:c.argTypes.toList=[ty,tu])
  (hx:E x= .ow n k) (hy:E y= .cv (.string s)) (hm:m[n]?=some (some (.row k e 1 f (l.map byteD))))
  (ht:P.underlying ty=some (.slice e)) (hu:P.underlying tu=some .string) (hi:(P.info? e).map (fun i=>(i.size,i.bytes,i.zero))=some (1,1,some (.int .u8 0))) (hb:l.length+s.size≤140737488355328):
  OpTr P o E m (.ow n (k+1)) (m.set n (some (.row (k+1) e 1 f ((l++s.data.toList).map byteD)))):=by
 intro B w0 N S t a w hsat hr
 obtain⟨i,hi,hie⟩:=Option.map_eq_some_iff.1 hi
 simp only[Prod.mk.injEq] at hie
 obtain⟨hsz,hby,hz⟩:=hie
 have e1:=arr2 hargs
 have e2:=arr2 htys
 have hrx:=hr x (by rw[ho];simp[Op.operands,Call.operands,e1])
 have hry:=hr y (by rw[ho];simp[Op.operands,Call.operands,e1])
 rw[hx] at hrx
 rw[hy] at hry
 generalize hux:a.eval x=u at hrx
 generalize huy:a.eval y=uy at hry
 cases hry
 cases hrx
 rename_i hu1 hn
 obtain⟨k0,v,hn,hk,he⟩:=hn
 obtain⟨v2,us,b1,b2,b3,b4,b5,b6⟩:=hsat.blk n _ hm
 rw[hn] at b1;cases b1
 have hu0:u=v:=by
  have h0:=he rfl
  obtain⟨A,c,h⟩:=own_parts b2
  rw[h] at h0⊢
  exact h0
 subst hu0
 rw[List.length_map] at b2
 obtain⟨v',w',hrun,hown,hgr,_⟩:=Lib.run_append_own_string (P:=P) w 0 ty tu o.type e i ht hu hi hz hsz hby u l.length us b2 s (by simp only[maxLen];omega) hb (Nat.zero_le _)
 have hvs0:∃A l c,u= .slice A l c:=by obtain⟨A,c,h⟩:=own_parts b2;exact⟨_,_,_,h⟩
 have hvs:∃A l c,v'= .slice A l c:=by obtain⟨A,c,h⟩:=own_parts hown;exact⟨_,_,_,h⟩
 have hv1:v'.oneCell'=true:=by obtain⟨A,l,c,rfl⟩:=hvs;rfl
 have hat:∀g,At v' g→w.heap.size≤g∨At u g:=by
  intro g hg
  rcases b2.2 with⟨rfl,hl0⟩|⟨g0,cap0,cu,rfl,hbg,hg0,hnc,hcm,hcs,htake⟩
  ·have hl:us=[]:=List.eq_nil_of_length_eq_zero (by have:=b2.1;omega)
   subst hl
   have hown2:w.ownsRow w.heap.size e 1 (.slice none 0 0) l.length []:=by rw[hl0];exact World.ownsRow_nil w _ e 1
   obtain⟨v3,w3,hr3,hown3,_⟩:=Lib.run_append_own_string (P:=P) w w.heap.size ty tu o.type e i ht hu hi hz hsz hby _ l.length [] hown2 s (by simp only[maxLen];omega) hb (Nat.le_refl _)
   rw[hrun] at hr3;cases hr3
   rcases hown3.2 with⟨rfl,_⟩|⟨g1,cap1,cu1,rfl,hb1,_⟩
   ·simp[At,at1] at hg
   ·simp[At,at1] at hg;subst hg;exact .inl hb1
  ·by_cases hroom:l.length+s.size≤cap0
   ·have hcs':cu.size=cap0:=by simpa using hcs
    have hr2:=Lib.run_append_room_string (P:=P) w ty tu o.type e i ht hu hi hsz g0 l.length cap0 cu hg0 s hroom (by omega)
    rw[hrun] at hr2;cases hr2
    exact .inr hg
   ·have holds:∀j u,us[j]?=some u→w.cell? ((⟨g0,0,none⟩:Addr).add j)=some u:=b2.cells (g:=g0) rfl
    have hxl:us.length=l.length:=by simpa using b2.1
    have hr2:=Lib.run_append_grow_string (P:=P) w ty tu o.type e i (.int .u8 0) ht hu hi hz ⟨g0,0,none⟩ l.length cap0 us (by rw[hsz];simpa using hxl) holds s (by omega) (by omega) (by rw[hby];exact growslice_fits (by omega) (by omega))
    rw[hrun] at hr2;cases hr2
    simp[At,at1] at hg;subst hg;exact .inl (Nat.le_refl _)
 obtain⟨N',g1,g2,g3⟩:=hsat.set (w':=w') (d:=n) (k:=k+1) (v:=v') (b:= .row (k+1) e 1 f ((l++s.data.toList).map byteD)) (lt_of_get hm)
  (fun k0 v0 h=>by rw[hn] at h;cases h;exact .inr (.inl ⟨hvs0,by omega⟩))
  (hsat.low.grown hgr hsat.base (fun q hq=>(hsat.own n _ _ q hn ((at_own hvs0).1 hq)).1)) hgr.size (fun g hg hk=>hgr.block g hg (fun e=>hk _ _ hn ((at_own hvs0).1 e.symm)))
  (fun g hg=>by
   have hlt:=hown.lt g ((at_own hvs).2 hg)
   refine⟨hlt.2,?_⟩
   rcases hat g hg with h|h
   ·exact .inl h
   ·exact .inr ⟨_,_,hn,h⟩)
  (fun N' g1 g2 g3=>⟨v',us++Lib.strCells s,g1,by rw[List.length_map,List.length_append];exact hown,(fun x hx=>by
    obtain⟨c,_,rfl⟩:=List.mem_map.1 hx;rfl),by omega,(fun i' j' d' hd'=>by
   have hul:us.length=l.length:=by simpa using b2.1
   rw[List.getElem?_map] at hd'
   cases hq:(l++s.data.toList)[i']? with
   |none=>rw[hq] at hd';cases hd'
   |some c=>
    rw[hq] at hd'
    cases j' with
    |succ j'=>simp[byteD] at hd'
    |zero=>
     obtain rfl:D.cv (.int .u8 (c.toNat:Nat))=d':=by simpa[byteD] using hd'
     rw[List.getElem?_append] at hq
     split at hq
     ·rename_i hlt
      obtain⟨u',hu1',hu2'⟩:=b5 i' 0 (.cv (.int .u8 (c.toNat:Nat))) (by rw[List.getElem?_map,hq];rfl)
      refine⟨u',?_,g3 _ _ _ hu2'⟩
      rw[List.getElem?_append_left (lt_of_get hu1')];exact hu1'
     ·rename_i hlt
      refine⟨.int .u8 (c.toNat:Nat),?_,.cv _ rfl⟩
      rw[List.getElem?_append_right (by omega),hul,show i'*1+0 - l.length=i' - l.length by omega]
      simp[Lib.strCells,hq]),fun e g hg=>by
   rcases hat g hg with h|h
   ·exact Nat.le_trans hsat.size h
   ·exact b6 e g h⟩)
 refine opOk_val (u:=v') (w':=w') ?_ ⟨N',S,g3,.ow n (k+1) _ hv1 ⟨k+1,v',g1,Nat.le_refl _,fun _=>by obtain⟨A,l,c,h⟩:=hvs;rw[h];rfl⟩⟩
 unfold execOp
 simp only[ho]
 simp[resolve,hc,e1,e2,invoke,builtin,hux,huy,hrun]
end
end Go.Proofs.YtjmabkpcahmnpaaGreatDoor
