/- Texts joined by pack.py: XLx4 XLx5 XLx6 XLx7 XLx8 XLx9 XLx10 XIdn -/
import Derived.Test.YtdccglkagfdooaaGreatDoorBz14
import Derived.Lib.ItoaMem
import Derived.Test.YtdccglkagfdooaaGreatDoorRows
import Derived.WalkKit
import Derived.WalkSpells
import Derived.WalkLawsBesides
import Derived.Lib.Hide
import Derived.Laws.RangeAny
set_option maxHeartbeats 4000000
set_option maxRecDepth 100000
namespace Go.Proofs.YtdccglkagfdooaaGreatDoor
open Go.RowKit
abbrev i32 (n:Int):V:= .cv (.int .i32 n)
theorem x_indexByte (s:ByteArray) (c:UInt8):DCalls Tryz.prog 178 [str s,u8 c] (int (Lib.indexByte s.data.toList c)):=by
 refine dcalls_val Tryz.func178 (by kernel_rfl) (by kernel_rfl) rfl rfl fun w _=>(Tryz.strings_IndexByte s (c.toNat:Nat) w).mono fun e w' ⟨h1,h2⟩=>⟨?_,h2▸Below.refl _ _⟩
 rw[h1]
 simp
theorem x_hasPrefix (s p:ByteArray):DCalls Tryz.prog 70 [str s,str p] (boo (Lib.hasPrefix s.data.toList p.data.toList)):=
 dcalls_val Tryz.func70 (by kernel_rfl) (by kernel_rfl) rfl rfl fun w _=>(Tryz.strings_HasPrefix s p w).mono fun e w' ⟨h1,h2⟩=>⟨h1,h2▸Below.refl _ _⟩
theorem x_indexRune (s:ByteArray) (r:Int) (h0:0≤r) (h1:r<128):DCalls Tryz.prog 151 [str s,i32 r] (int (Lib.indexByte s.data.toList r.toNat.toUInt8)):=
 dcalls_val Tryz.func151 (by kernel_rfl) (by kernel_rfl) rfl rfl fun w _=>(Tryz.strings_IndexRune_ascii s r w h0 h1).mono fun e w' ⟨h1,h2⟩=>⟨h1,h2▸Below.refl _ _⟩
theorem x_containsRune (s:ByteArray) (r:Int) (h0:0≤r) (h1:r<128):DCalls Tryz.prog 177 [str s,i32 r] (boo (decide (0≤Lib.indexByte s.data.toList r.toNat.toUInt8))):=
 dcalls_val Tryz.func177 (by kernel_rfl) (by kernel_rfl) rfl rfl fun w _=>(Tryz.strings_ContainsRune_ascii s r w h0 h1).mono fun e w' ⟨h1,h2⟩=>⟨h1,h2▸Below.refl _ _⟩
theorem enc_high (c:UInt8) (h:128≤c.toNat):∃b0 b1:UInt8,Utf8.encode (c.toNat:Nat)=mk [b0,b1]∧128≤b1.toNat:=by
 have:∀n:Fin 256,128≤n.val→Utf8.encode (n.val:Nat)=mk [(192+n.val / 64).toUInt8,(128+n.val % 64).toUInt8]∧128≤((128+n.val % 64).toUInt8).toNat:=by decide+kernel
 exact⟨_,_,this ⟨c.toNat,c.toNat_lt⟩ h⟩
theorem idx_high (b:UInt8) (h:128≤b.toNat):Lib.indexByte (syms.drop 2) b= -1∧b.toNat≠41:=by
 have:∀n:Fin 256,128≤n.val→Lib.indexByte (syms.drop 2) (UInt8.ofNat n.val)= -1:=by decide+kernel
 refine⟨?_,by omega⟩
 have:=this ⟨b.toNat,b.toNat_lt⟩ h
 simpa using this
theorem x_validRune (r:Int) (h0:0≤r) (h1:r<256):DCalls Tryz.prog 179 [i32 r] (boo true):=by
 refine sx Tryz.func179 (by kernel_rfl) ?_
 conv=>whnf
 rintro(_|_) h2
 ·simp at h2;omega
 conv=>whnf
 rintro(_|_) h3
 ·simp at h3;omega
 rfl
theorem x_indexHigh (c:UInt8) (h:128≤c.toNat):DCalls Tryz.prog 151 [bstr syms,i32 (c.toNat:Nat)] (int (-1)):=by
 have hc:=c.toNat_lt
 refine sxm [(1000009,false)] Tryz.func151 (by kernel_rfl) ?_
 conv=>whnf
 refine known true (by simp) ?_
 conv=>whnf
 refine known false (by simp;omega) ?_
 conv=>whnf
 refine known false (by simp;omega) ?_
 conv=>whnf
 refine⟨_,x_validRune _ (by omega) (by omega),?_⟩
 conv=>whnf
 refine known false rfl ?_
 conv=>whnf
 refine⟨_,_,ot_rune rfl rfl (by kernel_rfl) (by kernel_rfl),?_⟩
 obtain⟨b0,b1,he,hb1⟩:=enc_high c h
 rw[he]
 have e1:IntKind.i64.wrap (((mk [b0,b1]).size:Nat) - 1:Int)=((1:Nat):Int):=by rw[mk_size];rfl
 conv=>whnf
 rw[e1]
 refine⟨[],Unit,fun _=>[(9,int (1:Nat))],fun _=>[],fun _=>True,fun _=>0,(),trivial,?_,?_⟩
 ·refine⟨rfl,?_,?_⟩<;>repeat' (first|exact trivial|exact rfl|refine and_rfl ?_|refine and_two ?_ ?_)
 rintro _ _
 conv=>whnf
 refine known true (by rw[mk_size];rfl) ?_
 conv=>whnf
 refine⟨none,by kernel_rfl,?_⟩
 conv=>whnf
 refine⟨by omega,_,(show(mk syms)[1]?=some 41 from rfl),?_⟩
 conv=>whnf
 refine⟨by omega,_,(show(mk [b0,b1])[1]?=some b1 from rfl),?_⟩
 conv=>whnf
 refine known true (by simp;have:=(idx_high b1 hb1).2;omega) ?_
 conv=>whnf
 refine⟨none,by kernel_rfl,?_⟩
 have e2:(mk syms).extract (IntKind.i64.wrap (((1:Nat):Int)+1)).toNat (((mk syms).size:Nat):Int).toNat=mk (syms.drop 2):=mk_from syms 2
 conv=>whnf
 refine⟨by decide,by decide,Int.le_refl _,?_⟩
 rw[e2]
 conv=>whnf
 refine⟨by omega,_,(show(mk [b0,b1])[1]?=some b1 from rfl),?_⟩
 conv=>whnf
 refine⟨_,x_indexByte (mk (syms.drop 2)) b1,?_⟩
 rw[show Lib.indexByte (mk (syms.drop 2)).data.toList b1= -1 from(idx_high b1 hb1).1]
 conv=>whnf
 refine known true rfl ?_
 rfl
theorem isSy_low (c:UInt8) (h:c.toNat<128):decide (0≤Lib.indexByte (mk syms).data.toList (c.toNat:Int).toNat.toUInt8)=isSy c:=by
 have:∀n:Fin 256,n.val<128→decide (0≤Lib.indexByte syms (UInt8.ofNat n.val))=isSy (UInt8.ofNat n.val):=by decide+kernel
 have:=this ⟨c.toNat,c.toNat_lt⟩ h
 show decide (0≤Lib.indexByte syms _)=_
 simpa using this
theorem isSy_high (c:UInt8) (h:128≤c.toNat):isSy c=false:=by
 have:∀n:Fin 256,128≤n.val→isSy (UInt8.ofNat n.val)=false:=by decide+kernel
 have:=this ⟨c.toNat,c.toNat_lt⟩ h
 simpa using this
theorem x_containsSy (c:UInt8):DCalls Tryz.prog 177 [bstr syms,i32 (c.toNat:Nat)] (boo (isSy c)):=by
 rcases Nat.lt_or_ge c.toNat 128 with h|h
 ·rw[←isSy_low c h]
  exact x_containsRune _ _ (by omega) (by omega)
 ·rw[isSy_high c h]
  refine sx Tryz.func177 (by kernel_rfl) ?_
  conv=>whnf
  refine⟨_,x_indexHigh c h,?_⟩
  rfl
theorem cls_int (c:UInt8):cls c=if(c.toNat:Int)=32∨(c.toNat:Int)=9∨(c.toNat:Int)=10 then 1 else if(97≤(c.toNat:Int)∧(c.toNat:Int)≤122)∨(c.toNat:Int)=95 then 2 else
  if 48≤(c.toNat:Int)∧(c.toNat:Int)≤57 then 3 else if(c.toNat:Int)=34 then 4 else if(c.toNat:Int)=64 then 5 else if isSy c=true then 6 else 0:=by
 unfold cls
 rw[isBl_int,isHd_int,isDg_int,u8_eq c 34,u8_eq c 64]
 simp only[Bool.or_eq_true,Bool.and_eq_true,decide_eq_true_eq,or_assoc]
 rfl
theorem x_of (c:UInt8):DCalls Tryz.prog 150 [i32 (c.toNat:Nat)] (int (cls c)):=by
 refine sx Tryz.func150 (by kernel_rfl) ?_
 repeat' (first|exact fin_int (by rw[cls_int];simp at*;(repeat' split)<;>first|rfl|omega|simp_all)|((conv=>whnf);first|rintro(_|_) h|refine⟨_,x_containsSy c,?_⟩))
theorem wrap_u8 (c:UInt8):IntKind.i32.wrap ((c.toNat:Nat):Int)=((c.toNat:Nat):Int):=by
 have:=c.toNat_lt
 exact IntWalk.i32_in _ (by omega)
theorem x_ofw (c:UInt8):DCalls Tryz.prog 150 [i32 (IntKind.i32.wrap ((c.toNat:Nat):Int))] (int (cls c)):=by rw[wrap_u8];exact x_of c
end Go.Proofs.YtdccglkagfdooaaGreatDoor
namespace Go.Proofs.YtdccglkagfdooaaGreatDoor
open Go.RowKit
theorem cls_bl (c:UInt8):(cls c==1)=isBl c:=by
 rw[cls_int,isBl_int,Bool.eq_iff_iff];simp only[beq_iff_eq,Bool.or_eq_true,decide_eq_true_eq];(repeat' split)<;>omega
theorem cls_hd (c:UInt8):(cls c==2)=isHd c:=by
 rw[cls_int,isHd_int,Bool.eq_iff_iff];simp only[beq_iff_eq,Bool.or_eq_true,Bool.and_eq_true,decide_eq_true_eq];(repeat' split)<;>omega
theorem cls_dg (c:UInt8):(cls c==3)=isDg c:=by
 rw[cls_int,isDg_int,Bool.eq_iff_iff];simp only[beq_iff_eq,Bool.and_eq_true,decide_eq_true_eq];(repeat' split)<;>omega
theorem cls_sy (c:UInt8):(cls c==6)=isSy c:=by
 have:∀n:Fin 256,(cls (UInt8.ofNat n.val)==6)=isSy (UInt8.ofNat n.val):=by decide+kernel
 have:=this ⟨c.toNat,c.toNat_lt⟩
 simpa using this
theorem x_run (l:Bs) (hl:l.length<9223372036854775807):DCalls Tryz.prog 152 [bstr l] (int (runL l:Nat)):=by
 refine sx Tryz.func152 (by kernel_rfl) ?_
 conv=>whnf
 refine⟨[],Nat,fun k=>[(3,int k)],fun _=>[],fun k=>k≤l.length∧k+(if k=0 then runL l else runT (l.drop k))=runL l,fun k=>l.length - k,0,⟨Nat.zero_le _,by simp⟩,?_,?_⟩
 ·refine⟨rfl,?_,?_⟩<;>repeat' (first|exact trivial|exact rfl|refine and_rfl ?_|refine and_two ?_ ?_)
 rintro k ⟨hk1,hk⟩
 conv=>whnf
 rintro(_|_) h2
 ·simp[mk_size] at h2
  rw[List.drop_eq_nil_of_le h2] at hk
  conv=>whnf
  exact fin_int (by split at hk<;>simp[runT] at hk<;>first|omega|(subst k;have:l=[]:=List.eq_nil_of_length_eq_zero (by omega);subst this;simp[runL]))
 simp[mk_size] at h2
 have next:(if k=0 then runL l else runT (l.drop k))=runT (l.drop (k+1))+1→(k+1)+(if k+1=0 then runL l else runT (l.drop (k+1)))=runL l:=by
  intro h;rw[if_neg (by omega)];omega
 have hd0:k=0→runL l=if isHd l[k] then runT (l.drop (k+1))+1 else 0:=by
  intro e;subst e
  cases l with
  |nil=>simp at h2
  |cons c l=>rfl
 have hdk:runT (l.drop k)=if isHd l[k]||isDg l[k] then runT (l.drop (k+1))+1 else 0:=by rw[drop_cons h2];rfl
 conv=>whnf
 refine⟨by omega,_,mk_at h2,?_⟩
 conv=>whnf
 refine⟨_,x_ofw l[k],?_⟩
 conv=>whnf
 rw[cls_hd]
 rintro(_|_) h3
 rotate_left
 ·rw[h3] at hd0 hdk
  conv=>whnf
  refine⟨k+1,⟨by omega,next (by split;exact hd0 (by assumption);exact hdk)⟩,by dsimp only;omega,?_⟩
  refine⟨rfl,?_,?_⟩<;>repeat' (first|exact trivial|exact rfl|refine and_rfl ?_|refine and_val (wrap_succ (by omega)) ?_|refine and_two ?_ ?_)
 rw[h3] at hd0 hdk
 conv=>whnf
 rintro(_|_) h4
 ·simp at h4
  conv=>whnf
  exact fin_int (by rw[if_pos h4] at hk;have:=hd0 h4;simp at this;omega)
 simp at h4
 rw[if_neg (by omega)] at hk next
 conv=>whnf
 refine⟨by omega,_,mk_at h2,?_⟩
 conv=>whnf
 refine⟨_,x_ofw l[k],?_⟩
 conv=>whnf
 rw[cls_dg]
 rintro(_|_) h5
 ·rw[h5] at hdk
  conv=>whnf
  exact fin_int (by simp at hdk;omega)
 rw[h5] at hdk
 conv=>whnf
 refine⟨k+1,⟨by omega,next hdk⟩,by dsimp only;omega,?_⟩
 refine⟨rfl,?_,?_⟩<;>repeat' (first|exact trivial|exact rfl|refine and_rfl ?_|refine and_val (wrap_succ (by omega)) ?_|refine and_two ?_ ?_)
theorem x_digits (l:Bs) (hl:l.length<9223372036854775807):DCalls Tryz.prog 154 [bstr l] (int (digL l:Nat)):=by
 refine sx Tryz.func154 (by kernel_rfl) ?_
 conv=>whnf
 refine⟨[],Nat,fun k=>[(3,int k)],fun _=>[],fun k=>k≤l.length∧k+digL (l.drop k)=digL l,fun k=>l.length - k,0,⟨Nat.zero_le _,by simp⟩,?_,?_⟩
 ·refine⟨rfl,?_,?_⟩<;>repeat' (first|exact trivial|exact rfl|refine and_rfl ?_|refine and_two ?_ ?_)
 rintro k ⟨hk1,hk⟩
 conv=>whnf
 rintro(_|_) h2
 ·simp[mk_size] at h2
  rw[List.drop_eq_nil_of_le h2] at hk
  conv=>whnf
  exact fin_int (by simp[digL] at hk;omega)
 simp[mk_size] at h2
 have hdk:digL (l.drop k)=if isDg l[k] then digL (l.drop (k+1))+1 else 0:=by rw[drop_cons h2];rfl
 conv=>whnf
 refine⟨by omega,_,mk_at h2,?_⟩
 conv=>whnf
 refine⟨_,x_ofw l[k],?_⟩
 conv=>whnf
 rw[cls_dg]
 rintro(_|_) h3
 ·rw[h3] at hdk
  conv=>whnf
  exact fin_int (by simp at hdk;omega)
 rw[h3] at hdk
 simp at hdk
 conv=>whnf
 refine⟨k+1,⟨by omega,by omega⟩,by dsimp only;omega,?_⟩
 refine⟨rfl,?_,?_⟩<;>repeat' (first|exact trivial|exact rfl|refine and_rfl ?_|refine and_val (wrap_succ (by omega)) ?_|refine and_two ?_ ?_)
end Go.Proofs.YtdccglkagfdooaaGreatDoor
namespace Go.Proofs.YtdccglkagfdooaaGreatDoor
open Go.RowKit
theorem mk_fromI (l:Bs) (k:Nat):(mk l).extract ((k:Nat):Int).toNat (((mk l).size:Nat):Int).toNat=mk (l.drop k):=by
 rw[Int.toNat_natCast,Int.toNat_natCast,mk_size];exact mk_from l k
theorem idx_nl:∀(l:Bs),(Lib.indexByte l 10= -1∧skp true l=l.length)∨∃j:Nat,Lib.indexByte l 10=j∧j<l.length∧skp true l=j+skp false (l.drop j)∧l[j]?=some 10
 |[]=> .inl ⟨rfl,rfl⟩
 |c::l=>by
  by_cases hc:c=10
  ·subst hc
   exact .inr ⟨0,by simp[Lib.indexByte],by simp,by rw[List.drop_zero,skp_nl];simp,rfl⟩
  ·have hc':(c==10)=false:=by simpa using hc
   rcases idx_nl l with⟨h1,h2⟩|⟨j,h1,h2,h3,h4⟩
   ·exact .inl ⟨by simp[Lib.indexByte,hc,h1],by rw[skp_in hc',h2];rfl⟩
   ·refine .inr ⟨j+1,?_,by simpa using h2,by rw[skp_in hc',h3,List.drop_succ_cons];omega,by simpa using h4⟩
    simp only[Lib.indexByte,hc',h1]
    simp
theorem skip_com {l:Bs} (h:Lib.hasPrefix l [47,47]=true):skip l=skp true l∧l[0]?=some 47:=by
 match l,h with
 |[],h=>simp[Lib.hasPrefix] at h
 |[c],h=>simp[Lib.hasPrefix] at h
 |c::d::l,h=>
  simp[Lib.hasPrefix] at h
  obtain⟨rfl,rfl⟩:=h
  exact⟨by rw[show skip (47::47::l)=skp false (47::47::l) from rfl,skp_com rfl];simp[skp],rfl⟩
theorem skip_end {c:UInt8} {l:Bs} (h1:isBl c=false) (h:Lib.hasPrefix (c::l) [47,47]=false):skip (c::l)=0:=by
 refine skp_end h1 ?_
 cases l with
 |nil=>simp
 |cons d l=>
  rw[Bool.and_eq_false_iff]
  by_cases hc:c=47
  ·subst hc
   right
   by_cases hd:d=47
   ·subst hd
    rw[show Lib.hasPrefix (47::47::l) [47,47]=true by simp[Lib.hasPrefix]] at h;cases h
   ·simp[hd]
  ·left;simp[hc]
theorem x_skip (l:Bs) (hl:l.length<4611686018427387904):DCalls Tryz.prog 115 [bstr l] (int (skip l:Nat)):=by
 refine sx Tryz.func115 (by kernel_rfl) ?_
 conv=>whnf
 refine⟨[],Nat,fun k=>[(3,int k)],fun _=>[],fun k=>k≤l.length∧k+skip (l.drop k)=skip l,fun k=>l.length - k,0,⟨Nat.zero_le _,by simp⟩,?_,?_⟩
 ·refine⟨rfl,?_,?_⟩<;>repeat' (first|exact trivial|exact rfl|refine and_rfl ?_|refine and_two ?_ ?_)
 rintro k ⟨hk1,hk⟩
 conv=>whnf
 rintro(_|_) h2
 ·simp[mk_size] at h2
  rw[List.drop_eq_nil_of_le h2] at hk
  conv=>whnf
  exact fin_int (by simp[skp] at hk;omega)
 simp[mk_size] at h2
 have hdk:=drop_cons h2
 conv=>whnf
 refine⟨by omega,_,mk_at h2,?_⟩
 conv=>whnf
 refine⟨_,x_ofw l[k],?_⟩
 conv=>whnf
 rw[cls_bl]
 rintro(_|_) h3
 rotate_left
 ·rw[hdk,show skip (l[k]::l.drop (k+1))=skip (l.drop (k+1))+1 from skp_bl h3] at hk
  conv=>whnf
  refine⟨k+1,⟨by omega,by omega⟩,by dsimp only;omega,?_⟩
  refine⟨rfl,?_,?_⟩<;>repeat' (first|exact trivial|exact rfl|refine and_rfl ?_|refine and_val (wrap_succ (by omega)) ?_|refine and_two ?_ ?_)
 conv=>whnf
 refine⟨by omega,by rw[mk_size];omega,by omega,?_⟩
 rw[mk_fromI]
 conv=>whnf
 refine⟨_,x_hasPrefix (mk (l.drop k)) _,?_⟩
 conv=>whnf
 rintro(_|_) h4
 ·have h5:skip (l.drop k)=0:=by rw[hdk] at h4⊢;exact skip_end h3 h4
  conv=>whnf
  exact fin_int (by omega)
 obtain⟨h5,h6⟩:skip (l.drop k)=skp true (l.drop k)∧(l.drop k)[0]?=some 47:=skip_com h4
 conv=>whnf
 refine⟨by omega,by rw[mk_size];omega,by omega,?_⟩
 rw[mk_fromI]
 conv=>whnf
 refine⟨_,x_indexRune (mk (l.drop k)) 10 (by omega) (by omega),?_⟩
 have hidx:=idx_nl (l.drop k)
 rw[show Lib.indexByte (mk (l.drop k)).data.toList (10:Int).toNat.toUInt8=Lib.indexByte (l.drop k) 10 from rfl]
 rcases hidx with⟨e1,e2⟩|⟨j,e1,e2,e3,e4⟩
 ·rw[e1]
  conv=>whnf
  refine known true rfl ?_
  conv=>whnf
  exact fin_int (by rw[mk_size];simp only[List.length_drop] at e2;omega)
 ·rw[e1]
  conv=>whnf
  refine known false (by simp) ?_
  have hj:0<j:=by
   rcases Nat.eq_zero_or_pos j with e|e
   ·subst e;rw[h6] at e4;cases e4
   ·exact e
  simp only[List.length_drop] at e2
  rw[List.drop_drop] at e3
  conv=>whnf
  refine⟨k+j,⟨by omega,by rw[show skip (l.drop (k+j))=skp false (l.drop (k+j)) from rfl];omega⟩,by dsimp only;omega,?_⟩
  have hw:IntKind.i64.wrap ((k:Int)+(j:Int))=((k+j:Nat):Int):=by rw[IntWalk.i64_in _ (by omega)];rfl
  refine⟨rfl,?_,?_⟩<;>repeat' (first|exact trivial|exact rfl|refine and_rfl ?_|refine and_val hw ?_|refine and_two ?_ ?_)
theorem sEq_mk' {a b:Bs} {c:Bool} (h:sEq (mk a) (mk b)=c):(a==b)=c:=by rw[←h,sEq_mk]
theorem x_symbol (l:Bs) (hl:l.length<9223372036854775807):DCalls Tryz.prog 156 [bstr l] (boo (symB l)):=by
 refine sx Tryz.func156 (by kernel_rfl) ?_
 iterate 4 ((conv=>whnf);rintro(_|_) h;rotate_left;((conv=>whnf);exact fin_boo (by have h:=sEq_mk' h;unfold symB;rw[h];simp)))
 rename_i h1 h2 h3
 have h1:=sEq_mk' h1;have h2:=sEq_mk' h2;have h3:=sEq_mk' h3;have h4:=sEq_mk' h
 have e:symB l=(l.length==1&&l !=[33]&&isSy (l.headD 0)):=by unfold symB;rw[h1,h2,h3,h4];rfl
 conv=>whnf
 rintro(_|_) h5
 ·simp[mk_size] at h5
  conv=>whnf
  exact fin_boo (by rw[e,show(l.length==1)=false by simp;omega];rfl)
 simp[mk_size] at h5
 obtain⟨c,rfl⟩:∃c,l=[c]:=by
  match l,h5 with
  |[c],_=>exact⟨c,rfl⟩
 conv=>whnf
 rintro(_|_) h6
 ·have h6:(!sEq (mk [c]) (mk [33]))=false:=h6
  rw[sEq_mk] at h6
  conv=>whnf
  exact fin_boo (by rw[e];simp at h6;subst h6;rfl)
 have h6:(!sEq (mk [c]) (mk [33]))=true:=h6
 rw[sEq_mk] at h6
 conv=>whnf
 refine⟨by omega,_,(show(mk [c])[0]?=some c from rfl),?_⟩
 conv=>whnf
 refine⟨_,x_ofw c,?_⟩
 conv=>whnf
 exact fin_boo (by rw[cls_sy,e];simp at h6;simp[h6])
def sg:Bs:=[40,41,123,125,91,93,44,59,58,61,60,62,43,45,42,47,37]
theorem sym_sg (l:Bs) (h:l.length≠2):symB l=sg.any fun c=>l==[c]:=by
 match l,h with
 |[],_=>rfl
 |[c],_=>
  have:∀n:Fin 256,symB [UInt8.ofNat n.val]=sg.any fun c=>[UInt8.ofNat n.val]==[c]:=by decide+kernel
  have:=this ⟨c.toNat,c.toNat_lt⟩
  simpa using this
 |a::b::c::l,_=>
  have e:(sg.any fun d=>(a::b::c::l)==[d])=false:=by simp[sg]
  rw[e];unfold symB
  simp
end Go.Proofs.YtdccglkagfdooaaGreatDoor
namespace Go.Proofs.YtdccglkagfdooaaGreatDoor
open Go.RowKit
abbrev txV (p:Bs×Nat×Int):V:= .tu [bstr p.1,int p.2.1,int p.2.2]
theorem fin_tx {p q:Bs×Nat×Int} (h:p=q):txV p=txV q:=by rw[h]
theorem txt_bad {c:UInt8} {l:Bs} {i:Nat} {out:Bs} (h:(decide (c<32)||decide (c>126))=true):txt (c::l) i out=([],i,1):=by
 unfold txt;rw[if_pos h]
theorem txt_end {l:Bs} {i:Nat} {out:Bs}:txt (34::l) i out=(out,i+1,0):=by
 unfold txt;rfl
theorem txt_bs0 {i:Nat} {out:Bs}:txt [92] i out=([],i,1):=by unfold txt;rfl
theorem txt_bs1 {d:UInt8} {l:Bs} {i:Nat} {out:Bs} (h:(d==34||d==92)=false):txt (92::d::l) i out=([],i,1):=by
 rw[show txt (92::d::l) i out=if d==34||d==92 then(if out.length=200 then([],0,3) else txt l (i+2) (out++[d])) else([],i,1) by rw[txt];rfl,h];rfl
theorem txt_bs2 {d:UInt8} {l:Bs} {i:Nat} {out:Bs} (h:(d==34||d==92)=true):txt (92::d::l) i out=if out.length=200 then([],0,3) else txt l (i+2) (out++[d]):=by
 rw[show txt (92::d::l) i out=if d==34||d==92 then(if out.length=200 then([],0,3) else txt l (i+2) (out++[d])) else([],i,1) by rw[txt];rfl,h];rfl
theorem txt_go {c:UInt8} {l:Bs} {i:Nat} {out:Bs} (h:(decide (c<32)||decide (c>126))=false) (h1:c≠34) (h2:c≠92):txt (c::l) i out=if out.length=200 then([],0,3) else txt l (i+1) (out++[c]):=by
 conv=>lhs;unfold txt
 rw[if_neg (by rw[h];simp),if_neg (by simpa using h1),if_neg (by simpa using h2)]
theorem rangeB (c:UInt8):(decide (c<32)||decide (c>126))=(decide ((c.toNat:Int)<32)||decide ((c.toNat:Int)>126)):=by
 rw[u8_lt c 32,show decide (c>126)=decide ((126:UInt8)<c) from rfl,u8_lt 126 c];rfl
theorem x_text (l:Bs) (h0:0<l.length) (hl:l.length<4611686018427387904):DCalls Tryz.prog 155 [bstr l] (txV (txt (l.drop 1) 1 [])):=by
 refine sxm [(1000009,false)] Tryz.func155 (by kernel_rfl) ?_
 conv=>whnf
 refine⟨[(5,67,5,1)],Nat×Bs,fun⟨k,acc⟩=>[(6,int k),(5,.ow 67 0)],fun⟨k,acc⟩=>[(67,some (.row 0 5 1 true (acc.map byteD)))],fun⟨k,acc⟩=>k≤l.length∧acc.length≤200∧txt (l.drop k) k acc=txt (l.drop 1) 1 [],fun x=>l.length - x.1,(1,[]),⟨h0,by simp,rfl⟩,?_,?_⟩
 ·refine⟨rfl,?_,?_⟩<;>repeat' (first|exact trivial|exact rfl|refine and_rfl ?_|refine and_two ?_ ?_)
 rintro⟨k,acc⟩ ⟨hk1,hk2,hk⟩
 conv=>whnf
 rintro(_|_) h2
 ·simp[mk_size] at h2
  rw[List.drop_eq_nil_of_le h2] at hk
  conv=>whnf
  exact fin_tx (p:=([],0,1)) hk
 simp[mk_size] at h2
 rw[drop_cons h2] at hk
 conv=>whnf
 refine⟨by omega,_,mk_at h2,?_⟩
 conv=>whnf
 rw[wrap_u8]
 rintro(_|_) h3
 rotate_left
 ·conv=>whnf
  exact fin_tx (p:=([],k,1)) (by rw[←hk,txt_bad (by rw[rangeB];simp at*;omega)])
 conv=>whnf
 rintro(_|_) h4
 rotate_left
 ·conv=>whnf
  exact fin_tx (p:=([],k,1)) (by rw[←hk,txt_bad (by rw[rangeB];simp at*;omega)])
 have hr:(decide (l[k]<32)||decide (l[k]>126))=false:=by rw[rangeB];simp at*;omega
 clear h3 h4
 conv=>whnf
 rintro(_|_) h3
 rotate_left
 ·have h3' : l[k] = 34 := by have:(l[k]==34)=true:=by rw[u8_eq];simp at*;omega
                             simpa using this
  conv=>whnf
  refine⟨_,_,ot_string (e:=5) rfl rfl rfl (by kernel_rfl) (by kernel_rfl) (by kernel_rfl),?_⟩
  rw[h3',txt_end] at hk
  have hw:IntKind.i64.wrap ((k:Int)+1)=((k+1:Nat):Int):=wrap_succ (by omega)
  conv=>whnf
  rw[hw]
  exact fin_tx (p:=(acc,k+1,0)) hk
 have h34:l[k]≠34:=by intro e;rw[e] at h3;simp at h3
 conv=>whnf
 rintro(_|_) h4
 ·have h92:l[k]≠92:=by intro e;rw[e] at h4;simp at h4
  rw[txt_go hr h34 h92] at hk
  conv=>whnf
  rintro(_|_) h5
  rotate_left
  ·simp at h5
   rw[if_pos (by omega)] at hk
   conv=>whnf
   exact fin_tx (p:=([],0,3)) hk
  simp at h5
  rw[if_neg (by omega)] at hk
  conv=>whnf
  refine⟨by omega,_,mk_at h2,?_⟩
  conv=>whnf
  refine⟨by simp;omega,?_⟩
  conv=>whnf
  refine⟨(k+1,acc++[l[k]]),⟨h2,by simp;omega,hk⟩,by dsimp only;omega,?_⟩
  refine⟨rfl,?_,?_⟩<;>repeat' (first|exact trivial|exact rfl|refine and_rfl ?_|refine and_val (wrap_succ (by omega)) ?_|refine and_two ?_ ?_|(simp[byteD];done))
 have h92 : l[k] = 92 := by have:(l[k]==92)=true:=by rw[u8_eq];simp at*;omega
                            simpa using this
 rw[h92] at hk
 have hw:IntKind.i64.wrap ((k:Int)+1)=((k+1:Nat):Int):=wrap_succ (by omega)
 conv=>whnf
 rw[hw]
 rintro(_|_) h5
 rotate_left
 ·simp[mk_size] at h5
  rw[List.drop_eq_nil_of_le (by omega),txt_bs0] at hk
  conv=>whnf
  exact fin_tx (p:=([],k,1)) hk
 simp[mk_size] at h5
 have hk2':k+1<l.length:=by omega
 rw[drop_cons hk2'] at hk
 conv=>whnf
 refine⟨by rw[hw];omega,_,(by rw[hw];exact mk_at hk2'),?_⟩
 conv=>whnf
 rintro(_|_) h6
 ·have h34 : l[k + 1] = 34 := by have:(l[k+1]==34)=true:=by rw[u8_eq];simp at*;omega
                                 simpa using this
  rw[txt_bs2 (by rw[h34];rfl)] at hk
  conv=>whnf
  rw[hw]
  rintro(_|_) h8
  rotate_left
  ·simp at h8
   rw[if_pos (by omega)] at hk
   conv=>whnf
   exact fin_tx (p:=([],0,3)) hk
  simp at h8
  rw[if_neg (by omega)] at hk
  conv=>whnf
  refine⟨by omega,_,mk_at hk2',?_⟩
  conv=>whnf
  refine⟨by simp;omega,?_⟩
  conv=>whnf
  refine⟨(k+2,acc++[l[k+1]]),⟨by omega,by simp;omega,hk⟩,by dsimp only;omega,?_⟩
  refine⟨rfl,?_,?_⟩<;>repeat' (first|exact trivial|exact rfl|refine and_rfl ?_|refine and_val (wrap_succ (k:=k+1) (by omega)) ?_|refine and_two ?_ ?_|(simp[byteD];done))
 conv=>whnf
 refine⟨by rw[hw];omega,_,(by rw[hw];exact mk_at hk2'),?_⟩
 conv=>whnf
 rw[wrap_u8]
 have n34:(l[k+1]==34)=false:=by rw[u8_eq];simp at*;omega
 rintro(_|_) h7
 ·have h92 : l[k + 1] = 92 := by have:(l[k+1]==92)=true:=by rw[u8_eq];simp at*;omega
                                 simpa using this
  rw[txt_bs2 (by rw[h92];rfl)] at hk
  conv=>whnf
  rw[hw]
  rintro(_|_) h8
  rotate_left
  ·simp at h8
   rw[if_pos (by omega)] at hk
   conv=>whnf
   exact fin_tx (p:=([],0,3)) hk
  simp at h8
  rw[if_neg (by omega)] at hk
  conv=>whnf
  refine⟨by omega,_,mk_at hk2',?_⟩
  conv=>whnf
  refine⟨by simp;omega,?_⟩
  conv=>whnf
  refine⟨(k+2,acc++[l[k+1]]),⟨by omega,by simp;omega,hk⟩,by dsimp only;omega,?_⟩
  refine⟨rfl,?_,?_⟩<;>repeat' (first|exact trivial|exact rfl|refine and_rfl ?_|refine and_val (wrap_succ (k:=k+1) (by omega)) ?_|refine and_two ?_ ?_|(simp[byteD];done))
 ·have n92:(l[k+1]==92)=false:=by rw[u8_eq];simp at*;omega
  rw[txt_bs1 (by rw[n34,n92];rfl)] at hk
  conv=>whnf
  exact fin_tx (p:=([],k,1)) hk
end Go.Proofs.YtdccglkagfdooaaGreatDoor
namespace Go.Proofs.YtdccglkagfdooaaGreatDoor
open Go.RowKit
end Go.Proofs.YtdccglkagfdooaaGreatDoor
namespace Go.Proofs.YtdccglkagfdooaaGreatDoor
open Go.RowKit
theorem x_valid (n:Int):DCalls Tryz.prog 35 [int n] (boo (validB n)):=by
 refine sx Tryz.func35 (by kernel_rfl) ?_
 repeat' (first|exact fin_boo (by unfold validB;simp at*;omega)|((conv=>whnf);rintro(_|_) h))
def digs (d:Bs):Prop:=d≠[]∧∀c∈d,isDg c=true
def decB (d:Bs):Bool:= !(d.head? ==some 48&&d !=[48])
theorem dg_int {c:UInt8} (h:isDg c=true):48≤(c.toNat:Int)∧(c.toNat:Int)≤57:=by
 rw[isDg_int] at h;simpa using h
theorem digs_hd {d:Bs} (h:digs d):∃c r,d=c::r∧isDg c=true:=by
 match d,h with
 |c::r,h=>exact⟨c,r,rfl,h.2 c (by simp)⟩
theorem x_decimal (d:Bs) (h:digs d) (hl:d.length<9223372036854775807):DCalls Tryz.prog 33 [bstr d] (boo (decB d)):=by
 obtain⟨c,r,rfl,hc⟩:=digs_hd h
 have hci:=dg_int hc
 have h45:((c.toNat:Int)==45)=false:=beq_false_of_ne (by omega)
 refine sx Tryz.func33 (by kernel_rfl) ?_
 conv=>whnf
 refine known true (by rw[mk_size];simp) ?_
 conv=>whnf
 refine⟨by omega,_,(show(mk (c::r))[0]?=some c by rw[mk_get];rfl),?_⟩
 conv=>whnf
 refine known false h45 ?_
 conv=>whnf
 refine known false (show sEq (mk (c::r)) (mk [])=false by rw[sEq_mk];rfl) ?_
 conv=>whnf
 refine⟨by omega,_,(show(mk (c::r))[0]?=some c by rw[mk_get];rfl),?_⟩
 have hz:(c==48)=((c.toNat:Int)==48):=by rw[u8_eq];rfl
 conv=>whnf
 rintro(_|_) h1
 ·have hB:decB (c::r)=true:=by
   rw[h1] at hz
   have:c≠48:=by simpa using hz
   simp[decB,this]
  conv=>whnf
  refine⟨[],Nat,fun k=>[(29,int k)],fun _=>[],fun k=>k≤(c::r).length,fun k=>(c::r).length - k,0,Nat.zero_le _,?_,?_⟩
  ·refine⟨rfl,?_,?_⟩<;>repeat' (first|exact trivial|exact rfl|refine and_rfl ?_|refine and_two ?_ ?_)
  rintro k hk1
  conv=>whnf
  rintro(_|_) h2
  ·conv=>whnf
   exact fin_boo (by rw[hB])
  have h2:k<(c::r).length:=by simp only[mk_size] at h2;simp at h2⊢;omega
  have hdk:=dg_int (h.2 (c::r)[k] (List.getElem_mem h2))
  conv=>whnf
  refine⟨by omega,_,mk_at h2,?_⟩
  conv=>whnf
  refine known false (by simp only[decide_eq_false_iff_not];omega) ?_
  conv=>whnf
  refine⟨by omega,_,mk_at h2,?_⟩
  conv=>whnf
  refine known false (by simp only[decide_eq_false_iff_not];omega) ?_
  conv=>whnf
  refine⟨k+1,h2,by dsimp only;omega,?_⟩
  refine⟨rfl,?_,?_⟩<;>repeat' (first|exact trivial|exact rfl|refine and_rfl ?_|refine and_val (wrap_succ (by omega)) ?_|refine and_two ?_ ?_)
 have hc48:c=48:=by rw[h1] at hz;simpa using hz
 subst hc48
 conv=>whnf
 rintro(_|_) h3
 rotate_left
 ·have h3:(!sEq (mk (48::r)) (mk [48]))=true:=h3
  rw[sEq_mk] at h3
  conv=>whnf
  exact fin_boo (by simp at h3;simp[decB,h3])
 have h3:(!sEq (mk (48::r)) (mk [48]))=false:=h3
 rw[sEq_mk] at h3
 have hB:decB (48::r)=true:=by simp at h3;simp[decB,h3]
 generalize hcc:(48:UInt8)=c at*
 conv=>whnf
 refine⟨[],Nat,fun k=>[(29,int k)],fun _=>[],fun k=>k≤(c::r).length,fun k=>(c::r).length - k,0,Nat.zero_le _,?_,?_⟩
 ·refine⟨rfl,?_,?_⟩<;>repeat' (first|exact trivial|exact rfl|refine and_rfl ?_|refine and_two ?_ ?_)
 rintro k hk1
 conv=>whnf
 rintro(_|_) h2
 ·conv=>whnf
  exact fin_boo (by rw[hB])
 have h2:k<(c::r).length:=by simp only[mk_size] at h2;simp at h2⊢;omega
 have hdk:=dg_int (h.2 (c::r)[k] (List.getElem_mem h2))
 conv=>whnf
 refine⟨by omega,_,mk_at h2,?_⟩
 conv=>whnf
 refine known false (by simp only[decide_eq_false_iff_not];omega) ?_
 conv=>whnf
 refine⟨by omega,_,mk_at h2,?_⟩
 conv=>whnf
 refine known false (by simp only[decide_eq_false_iff_not];omega) ?_
 conv=>whnf
 refine⟨k+1,h2,by dsimp only;omega,?_⟩
 refine⟨rfl,?_,?_⟩<;>repeat' (first|exact trivial|exact rfl|refine and_rfl ?_|refine and_val (wrap_succ (by omega)) ?_|refine and_two ?_ ?_)
end Go.Proofs.YtdccglkagfdooaaGreatDoor
namespace Go.Proofs.YtdccglkagfdooaaGreatDoor
open Go.RowKit
theorem dval_ge:∀(l:Bs) (n:Nat),n≤dval l n
 |[],n=>Nat.le_refl _
 |c::l,n=>by
  have:=dval_ge l (10*n+(c.toNat - 48))
  simp only[dval];omega
theorem parseUint_digs:∀(l:Bs) (n:Nat),(∀c∈l,isDg c=true)→n<18446744073709551616→Lib.parseUint10 n l=if dval l n<18446744073709551616 then .ok (dval l n) else .range
 |[],n,_,hn=>by rw[show dval [] n=n from rfl,if_pos hn];rfl
 |c::l,n,h,hn=>by
  have hc:=dg_int (h c (by simp))
  have hge:=dval_ge l (10*n+(c.toNat - 48))
  rw[show dval (c::l) n=dval l (10*n+(c.toNat - 48)) from rfl]
  simp only[Lib.parseUint10]
  rw[if_pos (by omega)]
  split
  ·rw[if_neg (by omega)]
  ·split
   ·rw[if_neg (by omega)]
   ·rw[Nat.mul_comm n 10]
    exact parseUint_digs l _ (fun c hc=>h c (by simp[hc])) (by omega)
theorem atoi_digs (d:Bs) (h:digs d):Lib.atoiAll d=if dval d 0<9223372036854775808 then .ok (dval d 0:Int) else .range:=by
 obtain⟨c,r,rfl,hc⟩:=digs_hd h
 have hci:=dg_int hc
 have h45:¬c.toNat=45:=by omega
 have h43:¬c.toNat=43:=by omega
 unfold Lib.atoiAll
 simp only[h45,h43,or_self,if_false]
 unfold Lib.parseMag
 rw[if_neg (by simp),parseUint_digs _ 0 h.2 (by omega)]
 by_cases hv:dval (c::r) 0<18446744073709551616
 ·rw[if_pos hv]
  by_cases hv2:dval (c::r) 0<9223372036854775808
  ·rw[if_pos hv2];simp[hv2]
  ·rw[if_neg hv2];simp;omega
 ·rw[if_neg hv,if_neg (by omega)]
theorem decB_pnum (d:Bs) (h:digs d):pnum d=if decB d=false then(0,1) else if dval d 0>1000000000000 then(0,2) else((dval d 0:Int),0):=by
 obtain⟨c,r,rfl,hc⟩:=digs_hd h
 have:(decB (c::r)=false)↔((c::r).length>1∧(c::r).head?=some 48):=by
  unfold decB
  simp
  constructor
  ·rintro⟨rfl,h⟩
   refine⟨?_,rfl⟩
   cases r with
   |nil=>simp at h
   |cons=>simp
  ·rintro⟨hr,rfl⟩
   refine⟨rfl,?_⟩
   cases r with
   |nil=>simp at hr
   |cons=>simp
 unfold pnum
 by_cases hd:decB (c::r)=false
 ·rw[if_pos hd,if_pos (this.1 hd)]
 ·rw[if_neg hd,if_neg (fun e=>hd (this.2 e))]
theorem DCalls.vals {P:Program} {f:FuncId} {us:List Value} {v:Value} (h:DCalls P f (us.map .cv) (.cv v)) {w:World} (hg:ginv w):Calls P f us.toArray w fun e w'=>e= .returned v∧Below w.heap.size w w':=by
 refine(h.2 w us hg ⟨by simp,fun i x hx=>?_⟩).mono ?_
 ·rw[List.getElem?_map,Option.map_eq_some_iff] at hx
  obtain⟨u,hu,rfl⟩:=hx
  rw[List.getD_eq_getElem?_getD,hu]
  exact .cv _
 ·rintro e w' ⟨v',rfl,h1,h2⟩
  cases h1
  exact⟨rfl,h2⟩
theorem ginv_below {w w':World} (h:ginv w) (hb:Below w.heap.size w w'):ginv w':=ginv_low h (fun _ hg=>ginv_lt h hg) hb.block
theorem atoi_ok (d:Bs) (h:digs d) (hl:d.length≤281474976710656) (hv:dval d 0<9223372036854775808) (w:World):
  Calls Tryz.prog 34 #[.string (mk d)] w fun e w'=>e= .returned (.tuple #[.int .i64 (dval d 0:Nat),.nilIface])∧Below w.heap.size w w':=by
 refine(Tryz.strconv_Atoi_ok (mk d) (by rw[mk_size];omega) (dval d 0:Nat) (by rw[show(mk d).data.toList=d from rfl,atoi_digs d h,if_pos hv]) w).mono ?_
 rintro e w' ⟨rfl,hw⟩
 refine⟨rfl,?_⟩
 rcases hw with rfl|⟨t,rfl⟩
 ·exact Below.refl _ _
 ·exact Lib.bytesWorld_below _ _ _
theorem atoi_range (d:Bs) (h:digs d) (hl:d.length≤281474976710656) (hv:¬dval d 0<9223372036854775808) (w:World) (hg:ginv w):
  Calls Tryz.prog 34 #[.string (mk d)] w fun e w'=>∃n t N,e= .returned (.tuple #[.int .i64 n,.iface t (.pointer (some ⟨N,0,none⟩))])∧Below w.heap.size w w':=by
 obtain⟨⟨ev,h1,h2⟩,_⟩:=hg
 refine(Tryz.strconv_Atoi_range (mk d) (by rw[mk_size];omega) (by rw[show(mk d).data.toList=d from rfl,atoi_digs d h,if_neg hv]) ev w h1 h2).mono ?_
 rintro e w' ⟨N,rfl,_,_,hb⟩
 exact⟨_,_,N,rfl,hb⟩
theorem parse_any (d:Bs) (h:digs d) (hl:d.length≤281474976710656) (w:World) (hg:ginv w):
  Calls Tryz.prog 23 #[.string (mk d)] w fun e w'=>e= .returned (.tuple #[.int .i64 (pnum d).1,.int .i64 (pnum d).2])∧Below w.heap.size w w':=by
 have c1:=(DCalls.vals (us:=[.string (mk d)]) (x_decimal d h (by omega)) hg)
 have hp:=decB_pnum d h
 cases hd:decB d with
 |false=>
  rw[hd] at c1
  rw[if_pos hd] at hp
  rw[hp]
  clear hp
  go_enter Tryz.func23,Tryz.ntmps23
  go_wp2_with (go_at_call 33;refine c1.mono ?_;rintro e W1 ⟨rfl,hb1⟩)
  go_ret2
  exact⟨rfl,hb1⟩
 |true=>
  rw[hd] at c1
  rw[if_neg (by rw[hd];simp)] at hp
  rw[hp]
  clear hp
  by_cases hv:dval d 0<9223372036854775808
  ·have c2:=atoi_ok d h hl hv
   have c3:∀W,ginv W→_:=fun W hW=>DCalls.vals (us:=[.int .i64 (dval d 0:Nat)]) (x_valid (dval d 0:Nat)) (w:=W) hW
   have hvb:validB (dval d 0:Nat)=decide (¬dval d 0>1000000000000):=by unfold validB;rw[Bool.eq_iff_iff];simp;omega
   rw[hvb] at c3
   by_cases hm:dval d 0>1000000000000
   ·rw[if_pos hm]
    rw[show decide (¬dval d 0>1000000000000)=false by simpa using hm] at c3
    generalize dval d 0=v at*
    go_enter Tryz.func23,Tryz.ntmps23
    go_wp2_with (first
     |go_at_call 33;refine c1.mono ?_;rintro e W1 ⟨rfl,hb1⟩
     |go_at_call 34;refine(c2 _).mono ?_;rintro e W2 ⟨rfl,hb2⟩
     |go_at_call 35;refine(c3 _ (ginv_below (ginv_below hg (by assumption)) (by assumption))).mono ?_;rintro e W3 ⟨rfl,hb3⟩)
    go_ret2
    exact⟨rfl,hb1.trans ((hb2.trans (hb3.mono hb2.size)).mono hb1.size)⟩
   ·rw[if_neg hm]
    rw[show decide (¬dval d 0>1000000000000)=true by simpa using hm] at c3
    generalize dval d 0=v at*
    go_enter Tryz.func23,Tryz.ntmps23
    go_wp2_with (first
     |go_at_call 33;refine c1.mono ?_;rintro e W1 ⟨rfl,hb1⟩
     |go_at_call 34;refine(c2 _).mono ?_;rintro e W2 ⟨rfl,hb2⟩
     |go_at_call 35;refine(c3 _ (ginv_below (ginv_below hg (by assumption)) (by assumption))).mono ?_;rintro e W3 ⟨rfl,hb3⟩)
    go_ret2
    exact⟨rfl,hb1.trans ((hb2.trans (hb3.mono hb2.size)).mono hb1.size)⟩
  ·have c2:=atoi_range d h hl hv
   rw[if_pos (by omega)]
   generalize dval d 0=v at*
   go_enter Tryz.func23,Tryz.ntmps23
   go_wp2_with (first
    |go_at_call 33;refine c1.mono ?_;rintro e W1 ⟨rfl,hb1⟩
    |go_at_call 34;refine(c2 _ (ginv_below hg (by assumption))).mono ?_;rintro e W2 ⟨n,t,N,rfl,hb2⟩)
   go_ret2
   exact⟨rfl,hb1.trans (hb2.mono hb1.size)⟩
theorem x_parse (d:Bs) (h:digs d) (hl:d.length≤281474976710656):DCalls Tryz.prog 23 [bstr d] (.tu [int (pnum d).1,int (pnum d).2]):=
 dcalls_val Tryz.func23 (by kernel_rfl) (by kernel_rfl) rfl rfl fun w hg=>parse_any d h hl w hg
theorem x_itoa (n:Int) (h0: -9223372036854775808≤n) (h1:n≤9223372036854775807):DCalls Tryz.prog 29 [int n] (bstr (Lib.itoa n)):=
 dcalls_val Tryz.func29 (by kernel_rfl) (by kernel_rfl) rfl rfl fun w hg=>(Tryz.strconv_Itoa n h0 h1 w hg.2.1).mono fun e w' ⟨h1,k,os,h2⟩=>⟨h1,by
  rw[h2]
  refine⟨rfl,rfl,rfl,by simp[Sort.grow],fun i hi=>?_⟩
  show((w.drewN k).heap++os)[i]?=_
  rw[Array.getElem?_append_left (by show i<w.heap.size;omega)]
  rfl⟩
theorem x_format (n:Int) (h0: -9223372036854775808≤n) (h1:n≤9223372036854775807):DCalls Tryz.prog 20 [int n] (bstr (Lib.itoa n)):=by
 refine sx Tryz.func20 (by kernel_rfl) ?_
 conv=>whnf
 refine⟨_,x_itoa n h0 h1,?_⟩
 rfl
end Go.Proofs.YtdccglkagfdooaaGreatDoor
namespace Go.Proofs.YtdccglkagfdooaaGreatDoor
open Go.RowKit
theorem retb {a b:Bool} (h:a=b):Ending.returned (.bool a)= .returned (.bool b):=by rw[h]
def smallI (c:Int):Bool:=decide (97≤c)&&decide (c≤122)
def digitI (c:Int):Bool:=decide (48≤c)&&decide (c≤57)
theorem small_any (c:Int) (w:World):
  Calls Tryz.prog 56 #[.int .i32 c] w fun e w'=>e= .returned (.bool (smallI c))∧w=w':=by
 go_enter Tryz.func56,Tryz.ntmps56
 go_wp2
 all_goals
  go_ret
  exact⟨retb (by simp[smallI];try omega),rfl⟩
theorem digit_any (c:Int) (w:World):
  Calls Tryz.prog 57 #[.int .i32 c] w fun e w'=>e= .returned (.bool (digitI c))∧w=w':=by
 go_enter Tryz.func57,Tryz.ntmps57
 go_wp2
 all_goals
  go_ret
  exact⟨retb (by simp[digitI];try omega),rfl⟩
def nameWC (first:Bool) (c:Int):Bool:=smallI c||(!first&&(digitI c||c==45||c==95))
def nameW (s:ByteArray):Bool:=(List.range s.size).all (fun i=>nameWC (i==0) (s.get! i).toNat)&&(decide (1≤s.size)&&decide (s.size≤24))
theorem nameWC_high (f:Bool) (c:Int) (h:128≤c):nameWC f c=false:=by
 simp[nameWC,smallI,digitI];omega
theorem get_bang (s:ByteArray) (i:Nat) (h:i<s.size):s.get! i=s[i]:=by
 have:=get_at s i h
 simpa using this
theorem all_no (s:ByteArray) (f:Nat→Int→Bool) (x:Bool) (i:Nat) (h:i<s.size) (hn:f i s[i].toNat=false):((List.range s.size).all (fun i=>f i (s.get! i).toNat)&&x)=false:=by
 have:((List.range s.size).all (fun i=>f i (s.get! i).toNat))=false:=by
  rw[Bool.eq_false_iff]
  intro hh
  rw[List.all_eq_true] at hh
  have:=hh i (List.mem_range.2 h)
  rw[get_bang s i h,hn] at this
  cases this
 rw[this];rfl
theorem all_yes (s:ByteArray) (f:Nat→Int→Bool) (x:Bool) (hy:∀i (h:i<s.size),f i s[i].toNat=true):((List.range s.size).all (fun i=>f i (s.get! i).toNat)&&x)=x:=by
 have:((List.range s.size).all (fun i=>f i (s.get! i).toNat))=true:=by
  rw[List.all_eq_true]
  intro i hi
  have h:=List.mem_range.1 hi
  rw[get_bang s i h]
  exact hy i h
 rw[this];rfl
theorem rune_step (s:ByteArray) (pos:Nat) (hp:pos<s.size) (f:Int→Bool) (hf:∀c,128≤c→f c=false):
  (f (Utf8.decode s pos).1=false→f s[pos].toNat=false)∧(f (Utf8.decode s pos).1=true→f s[pos].toNat=true∧(Utf8.decode s pos).2=1):=by
 by_cases ha:s[pos].toNat<128
 ·rw[decode_ascii s pos hp ha];exact⟨fun h=>h,fun h=>⟨h,rfl⟩⟩
 ·have h:=decode_high s pos hp (by omega)
  rw[hf (Utf8.decode s pos).1 (by omega),hf s[pos].toNat (by omega)]
  exact⟨fun h=>h,fun h=>by cases h⟩
theorem ext_ok {s:ByteArray} {f:Nat→Int→Bool} {pos n:Nat} (hp:pos<s.size) (hall:∀i (h:i<s.size),i<pos→f i s[i].toNat=true) (h1:f pos s[pos].toNat=true∧n=1):
  pos+n≤s.size∧∀i (h:i<s.size),i<pos+n→f i s[i].toNat=true:=by
 obtain⟨h1,rfl⟩:=h1
 refine⟨by omega,fun i h hi=>?_⟩
 by_cases e:i=pos
 ·subst e;exact h1
 ·exact hall i h (by omega)
theorem iname_any (s:ByteArray) (w:World) (hs:s.size≤maxLen):
  Calls Tryz.prog 37 #[.string s] w fun e w'=>e= .returned (.bool (nameW s))∧Below w.heap.size w w':=by
 unfold maxLen at hs
 go_enter Tryz.func37,Tryz.ntmps37
 go_wp2_with fail
 go_loopw [3,4] (fun _ _ w'=>∃pos:Nat,w'=w.iter s pos∧pos≤s.size∧∀i (h:i<s.size),i<pos→nameWC (i==0) s[i].toNat=true) (fun _ _ w'=>s.size - w'.iterPos w.heap.size)
 case atStart=>exact⟨0,rfl,Nat.zero_le _,fun i h h0=>absurd h0 (by omega)⟩
 case round=>
  obtain⟨pos,rfl,hle,hall⟩:=hrel
  have Hall:=Lib.hid hall;clear hall
  by_cases hp:pos<s.size
  ·have hnx:∀ty,(Instr.next (.pointer (some ⟨w.heap.size,0,none⟩)) true ty).run Tryz.prog (w.iter s pos)=_:=fun ty=>run_next_any w s pos ty hp
   have st:=rune_step s pos hp (nameWC (pos==0)) (nameWC_high _)
   generalize hd:Utf8.decode s pos=d at st hnx
   clear hd
   obtain⟨c,n⟩:=d
   simp only at st hnx
   have St:=Lib.hid st;clear st
   go_wp2_with (first
    |(go_at_call 56;refine(small_any _ _).mono ?_;rintro e w' ⟨rfl,rfl⟩)
    |(go_at_call 57;refine(digit_any _ _).mono ?_;rintro e w' ⟨rfl,rfl⟩))
   all_goals
    first
     | (have hbad:nameWC (pos==0) c=false:=by(simp_all [nameWC];done)
        go_ret
        exact⟨retb (all_no s (fun i=>nameWC (i==0)) _ pos hp (St.out.1 hbad)).symm,(Below.refl _ _).alloc (Nat.le_refl _) _⟩)
     | (have hgood:nameWC (pos==0) c=true:=by(simp_all [nameWC];done)
        have hx:=ext_ok (f:=fun i=>nameWC (i==0)) hp Hall.out (St.out.2 hgood)
        have h1:=(St.out.2 hgood).2
        clear hgood
        go_roundw
        case rel=>exact⟨pos+n,rfl,hx⟩
        case measure=>simp;omega)
  ·have hnx:∀ty,(Instr.next (.pointer (some ⟨w.heap.size,0,none⟩)) true ty).run Tryz.prog (w.iter s pos)=_:=fun ty=>run_next_end w s pos ty hp
   go_wp2
   all_goals
    go_ret
    refine⟨retb (Eq.trans ?_ (all_yes s (fun i=>nameWC (i==0)) _ (fun i h=>Hall.out i h (by omega))).symm),(Below.refl _ _).alloc (Nat.le_refl _) _⟩
    first
     |(simp;done)
     |(simp;omega)
     |(rw[Bool.eq_iff_iff];simp;omega)
end Go.Proofs.YtdccglkagfdooaaGreatDoor
