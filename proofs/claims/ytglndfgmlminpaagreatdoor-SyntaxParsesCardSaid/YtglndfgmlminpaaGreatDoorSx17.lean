/- Texts joined by pack.py: XLx4 XLx5 XLx6 XLx7 XLx8 -/
import Derived.Test.YtglndfgmlminpaaGreatDoorSx15
import Derived.Test.YtglndfgmlminpaaGreatDoorSx16
set_option maxHeartbeats 2000000
set_option maxRecDepth 100000
namespace Go.Proofs.YtglndfgmlminpaaGreatDoor
open Go.RowKit
abbrev i32 (n:Int):V:= .cv (.int .i32 n)
theorem x_indexByte (s:ByteArray) (c:UInt8):DCalls Tryz.prog 125 [str s,u8 c] (int (Lib.indexByte s.data.toList c)):=by
 refine dcalls_val Tryz.func125 (by kernel_rfl) (by kernel_rfl) rfl rfl fun w _=>(Tryz.strings_IndexByte s (c.toNat:Nat) w).mono fun e w' ⟨h1,h2⟩=>⟨?_,h2▸Below.refl _ _⟩
 rw[h1]
 simp
theorem x_hasPrefix (s p:ByteArray):DCalls Tryz.prog 81 [str s,str p] (boo (Lib.hasPrefix s.data.toList p.data.toList)):=
 dcalls_val Tryz.func81 (by kernel_rfl) (by kernel_rfl) rfl rfl fun w _=>(Tryz.strings_HasPrefix s p w).mono fun e w' ⟨h1,h2⟩=>⟨h1,h2▸Below.refl _ _⟩
theorem x_indexRune (s:ByteArray) (r:Int) (h0:0≤r) (h1:r<128):DCalls Tryz.prog 82 [str s,i32 r] (int (Lib.indexByte s.data.toList r.toNat.toUInt8)):=
 dcalls_val Tryz.func82 (by kernel_rfl) (by kernel_rfl) rfl rfl fun w _=>(Tryz.strings_IndexRune_ascii s r w h0 h1).mono fun e w' ⟨h1,h2⟩=>⟨h1,h2▸Below.refl _ _⟩
theorem x_containsRune (s:ByteArray) (r:Int) (h0:0≤r) (h1:r<128):DCalls Tryz.prog 123 [str s,i32 r] (boo (decide (0≤Lib.indexByte s.data.toList r.toNat.toUInt8))):=
 dcalls_val Tryz.func123 (by kernel_rfl) (by kernel_rfl) rfl rfl fun w _=>(Tryz.strings_ContainsRune_ascii s r w h0 h1).mono fun e w' ⟨h1,h2⟩=>⟨h1,h2▸Below.refl _ _⟩
theorem enc_high (c:UInt8) (h:128≤c.toNat):∃b0 b1:UInt8,Utf8.encode (c.toNat:Nat)=mk [b0,b1]∧128≤b1.toNat:=by
 have:∀n:Fin 256,128≤n.val→Utf8.encode (n.val:Nat)=mk [(192+n.val / 64).toUInt8,(128+n.val % 64).toUInt8]∧128≤((128+n.val % 64).toUInt8).toNat:=by decide+kernel
 exact⟨_,_,this ⟨c.toNat,c.toNat_lt⟩ h⟩
theorem idx_high (b:UInt8) (h:128≤b.toNat):Lib.indexByte (syms.drop 2) b= -1∧b.toNat≠41:=by
 have:∀n:Fin 256,128≤n.val→Lib.indexByte (syms.drop 2) (UInt8.ofNat n.val)= -1:=by decide+kernel
 refine⟨?_,by omega⟩
 have:=this ⟨b.toNat,b.toNat_lt⟩ h
 simpa using this
theorem x_validRune (r:Int) (h0:0≤r) (h1:r<256):DCalls Tryz.prog 126 [i32 r] (boo true):=by
 refine sx Tryz.func126 (by kernel_rfl) ?_
 conv=>whnf
 rintro(_|_) h2
 ·simp at h2;omega
 conv=>whnf
 rintro(_|_) h3
 ·simp at h3;omega
 rfl
theorem x_indexHigh (c:UInt8) (h:128≤c.toNat):DCalls Tryz.prog 82 [bstr syms,i32 (c.toNat:Nat)] (int (-1)):=by
 have hc:=c.toNat_lt
 refine sxm [(1000009,false)] Tryz.func82 (by kernel_rfl) ?_
 conv=>whnf
 refine known true (by simp) ?_
 conv=>whnf
 refine known false (by simp;omega) ?_
 conv=>whnf
 refine known false (by simp;omega) ?_
 conv=>whnf
 refine⟨_,x_validRune _ (by omega) (by omega),?_⟩
 conv=>whnf
 refine known false rfl ?_
 conv=>whnf
 refine⟨_,_,ot_rune rfl rfl (by kernel_rfl) (by kernel_rfl),?_⟩
 obtain⟨b0,b1,he,hb1⟩:=enc_high c h
 rw[he]
 have e1:IntKind.i64.wrap (((mk [b0,b1]).size:Nat) - 1:Int)=((1:Nat):Int):=by rw[mk_size];rfl
 conv=>whnf
 rw[e1]
 refine⟨[],Unit,fun _=>[(9,int (1:Nat))],fun _=>[],fun _=>True,fun _=>0,(),trivial,?_,?_⟩
 ·refine⟨rfl,?_,?_⟩<;>repeat' (first|exact trivial|exact rfl|refine and_rfl ?_|refine and_two ?_ ?_)
 rintro _ _
 conv=>whnf
 refine known true (by rw[mk_size];rfl) ?_
 conv=>whnf
 refine⟨none,by kernel_rfl,?_⟩
 conv=>whnf
 refine⟨by omega,_,(show(mk syms)[1]?=some 41 from rfl),?_⟩
 conv=>whnf
 refine⟨by omega,_,(show(mk [b0,b1])[1]?=some b1 from rfl),?_⟩
 conv=>whnf
 refine known true (by simp;have:=(idx_high b1 hb1).2;omega) ?_
 conv=>whnf
 refine⟨none,by kernel_rfl,?_⟩
 have e2:(mk syms).extract (IntKind.i64.wrap (((1:Nat):Int)+1)).toNat (((mk syms).size:Nat):Int).toNat=mk (syms.drop 2):=mk_from syms 2
 conv=>whnf
 refine⟨by decide,by decide,Int.le_refl _,?_⟩
 rw[e2]
 conv=>whnf
 refine⟨by omega,_,(show(mk [b0,b1])[1]?=some b1 from rfl),?_⟩
 conv=>whnf
 refine⟨_,x_indexByte (mk (syms.drop 2)) b1,?_⟩
 rw[show Lib.indexByte (mk (syms.drop 2)).data.toList b1= -1 from(idx_high b1 hb1).1]
 conv=>whnf
 refine known true rfl ?_
 rfl
theorem isSy_low (c:UInt8) (h:c.toNat<128):decide (0≤Lib.indexByte (mk syms).data.toList (c.toNat:Int).toNat.toUInt8)=isSy c:=by
 have:∀n:Fin 256,n.val<128→decide (0≤Lib.indexByte syms (UInt8.ofNat n.val))=isSy (UInt8.ofNat n.val):=by decide+kernel
 have:=this ⟨c.toNat,c.toNat_lt⟩ h
 show decide (0≤Lib.indexByte syms _)=_
 simpa using this
theorem isSy_high (c:UInt8) (h:128≤c.toNat):isSy c=false:=by
 have:∀n:Fin 256,128≤n.val→isSy (UInt8.ofNat n.val)=false:=by decide+kernel
 have:=this ⟨c.toNat,c.toNat_lt⟩ h
 simpa using this
theorem x_containsSy (c:UInt8):DCalls Tryz.prog 123 [bstr syms,i32 (c.toNat:Nat)] (boo (isSy c)):=by
 rcases Nat.lt_or_ge c.toNat 128 with h|h
 ·rw[←isSy_low c h]
  exact x_containsRune _ _ (by omega) (by omega)
 ·rw[isSy_high c h]
  refine sx Tryz.func123 (by kernel_rfl) ?_
  conv=>whnf
  refine⟨_,x_indexHigh c h,?_⟩
  rfl
theorem cls_int (c:UInt8):cls c=if(c.toNat:Int)=32∨(c.toNat:Int)=9∨(c.toNat:Int)=10 then 1 else if(97≤(c.toNat:Int)∧(c.toNat:Int)≤122)∨(c.toNat:Int)=95 then 2 else
  if 48≤(c.toNat:Int)∧(c.toNat:Int)≤57 then 3 else if(c.toNat:Int)=34 then 4 else if(c.toNat:Int)=64 then 5 else if isSy c=true then 6 else 0:=by
 unfold cls
 rw[isBl_int,isHd_int,isDg_int,u8_eq c 34,u8_eq c 64]
 simp only[Bool.or_eq_true,Bool.and_eq_true,decide_eq_true_eq,or_assoc]
 rfl
theorem x_of (c:UInt8):DCalls Tryz.prog 80 [i32 (c.toNat:Nat)] (int (cls c)):=by
 refine sx Tryz.func80 (by kernel_rfl) ?_
 repeat' (first|exact fin_int (by rw[cls_int];simp at*;(repeat' split)<;>first|rfl|omega|simp_all)|((conv=>whnf);first|rintro(_|_) h|refine⟨_,x_containsSy c,?_⟩))
theorem wrap_u8 (c:UInt8):IntKind.i32.wrap ((c.toNat:Nat):Int)=((c.toNat:Nat):Int):=by
 have:=c.toNat_lt
 exact IntWalk.i32_in _ (by omega)
theorem x_ofw (c:UInt8):DCalls Tryz.prog 80 [i32 (IntKind.i32.wrap ((c.toNat:Nat):Int))] (int (cls c)):=by rw[wrap_u8];exact x_of c
end Go.Proofs.YtglndfgmlminpaaGreatDoor
namespace Go.Proofs.YtglndfgmlminpaaGreatDoor
open Go.RowKit
theorem cls_bl (c:UInt8):(cls c==1)=isBl c:=by
 rw[cls_int,isBl_int,Bool.eq_iff_iff];simp only[beq_iff_eq,Bool.or_eq_true,decide_eq_true_eq];(repeat' split)<;>omega
theorem cls_hd (c:UInt8):(cls c==2)=isHd c:=by
 rw[cls_int,isHd_int,Bool.eq_iff_iff];simp only[beq_iff_eq,Bool.or_eq_true,Bool.and_eq_true,decide_eq_true_eq];(repeat' split)<;>omega
theorem cls_dg (c:UInt8):(cls c==3)=isDg c:=by
 rw[cls_int,isDg_int,Bool.eq_iff_iff];simp only[beq_iff_eq,Bool.and_eq_true,decide_eq_true_eq];(repeat' split)<;>omega
theorem cls_sy (c:UInt8):(cls c==6)=isSy c:=by
 have:∀n:Fin 256,(cls (UInt8.ofNat n.val)==6)=isSy (UInt8.ofNat n.val):=by decide+kernel
 have:=this ⟨c.toNat,c.toNat_lt⟩
 simpa using this
theorem x_run (l:Bs) (hl:l.length<9223372036854775807):DCalls Tryz.prog 83 [bstr l] (int (runL l:Nat)):=by
 refine sx Tryz.func83 (by kernel_rfl) ?_
 conv=>whnf
 refine⟨[],Nat,fun k=>[(3,int k)],fun _=>[],fun k=>k≤l.length∧k+(if k=0 then runL l else runT (l.drop k))=runL l,fun k=>l.length - k,0,⟨Nat.zero_le _,by simp⟩,?_,?_⟩
 ·refine⟨rfl,?_,?_⟩<;>repeat' (first|exact trivial|exact rfl|refine and_rfl ?_|refine and_two ?_ ?_)
 rintro k ⟨hk1,hk⟩
 conv=>whnf
 rintro(_|_) h2
 ·simp[mk_size] at h2
  rw[List.drop_eq_nil_of_le h2] at hk
  conv=>whnf
  exact fin_int (by split at hk<;>simp[runT] at hk<;>first|omega|(subst k;have:l=[]:=List.eq_nil_of_length_eq_zero (by omega);subst this;simp[runL]))
 simp[mk_size] at h2
 have next:(if k=0 then runL l else runT (l.drop k))=runT (l.drop (k+1))+1→(k+1)+(if k+1=0 then runL l else runT (l.drop (k+1)))=runL l:=by
  intro h;rw[if_neg (by omega)];omega
 have hd0:k=0→runL l=if isHd l[k] then runT (l.drop (k+1))+1 else 0:=by
  intro e;subst e
  cases l with
  |nil=>simp at h2
  |cons c l=>rfl
 have hdk:runT (l.drop k)=if isHd l[k]||isDg l[k] then runT (l.drop (k+1))+1 else 0:=by rw[drop_cons h2];rfl
 conv=>whnf
 refine⟨by omega,_,mk_at h2,?_⟩
 conv=>whnf
 refine⟨_,x_ofw l[k],?_⟩
 conv=>whnf
 rw[cls_hd]
 rintro(_|_) h3
 rotate_left
 ·rw[h3] at hd0 hdk
  conv=>whnf
  refine⟨k+1,⟨by omega,next (by split;exact hd0 (by assumption);exact hdk)⟩,by dsimp only;omega,?_⟩
  refine⟨rfl,?_,?_⟩<;>repeat' (first|exact trivial|exact rfl|refine and_rfl ?_|refine and_val (wrap_succ (by omega)) ?_|refine and_two ?_ ?_)
 rw[h3] at hd0 hdk
 conv=>whnf
 rintro(_|_) h4
 ·simp at h4
  conv=>whnf
  exact fin_int (by rw[if_pos h4] at hk;have:=hd0 h4;simp at this;omega)
 simp at h4
 rw[if_neg (by omega)] at hk next
 conv=>whnf
 refine⟨by omega,_,mk_at h2,?_⟩
 conv=>whnf
 refine⟨_,x_ofw l[k],?_⟩
 conv=>whnf
 rw[cls_dg]
 rintro(_|_) h5
 ·rw[h5] at hdk
  conv=>whnf
  exact fin_int (by simp at hdk;omega)
 rw[h5] at hdk
 conv=>whnf
 refine⟨k+1,⟨by omega,next hdk⟩,by dsimp only;omega,?_⟩
 refine⟨rfl,?_,?_⟩<;>repeat' (first|exact trivial|exact rfl|refine and_rfl ?_|refine and_val (wrap_succ (by omega)) ?_|refine and_two ?_ ?_)
theorem x_digits (l:Bs) (hl:l.length<9223372036854775807):DCalls Tryz.prog 85 [bstr l] (int (digL l:Nat)):=by
 refine sx Tryz.func85 (by kernel_rfl) ?_
 conv=>whnf
 refine⟨[],Nat,fun k=>[(3,int k)],fun _=>[],fun k=>k≤l.length∧k+digL (l.drop k)=digL l,fun k=>l.length - k,0,⟨Nat.zero_le _,by simp⟩,?_,?_⟩
 ·refine⟨rfl,?_,?_⟩<;>repeat' (first|exact trivial|exact rfl|refine and_rfl ?_|refine and_two ?_ ?_)
 rintro k ⟨hk1,hk⟩
 conv=>whnf
 rintro(_|_) h2
 ·simp[mk_size] at h2
  rw[List.drop_eq_nil_of_le h2] at hk
  conv=>whnf
  exact fin_int (by simp[digL] at hk;omega)
 simp[mk_size] at h2
 have hdk:digL (l.drop k)=if isDg l[k] then digL (l.drop (k+1))+1 else 0:=by rw[drop_cons h2];rfl
 conv=>whnf
 refine⟨by omega,_,mk_at h2,?_⟩
 conv=>whnf
 refine⟨_,x_ofw l[k],?_⟩
 conv=>whnf
 rw[cls_dg]
 rintro(_|_) h3
 ·rw[h3] at hdk
  conv=>whnf
  exact fin_int (by simp at hdk;omega)
 rw[h3] at hdk
 simp at hdk
 conv=>whnf
 refine⟨k+1,⟨by omega,by omega⟩,by dsimp only;omega,?_⟩
 refine⟨rfl,?_,?_⟩<;>repeat' (first|exact trivial|exact rfl|refine and_rfl ?_|refine and_val (wrap_succ (by omega)) ?_|refine and_two ?_ ?_)
end Go.Proofs.YtglndfgmlminpaaGreatDoor
namespace Go.Proofs.YtglndfgmlminpaaGreatDoor
open Go.RowKit
theorem mk_fromI (l:Bs) (k:Nat):(mk l).extract ((k:Nat):Int).toNat (((mk l).size:Nat):Int).toNat=mk (l.drop k):=by
 rw[Int.toNat_natCast,Int.toNat_natCast,mk_size];exact mk_from l k
theorem idx_nl:∀(l:Bs),(Lib.indexByte l 10= -1∧skp true l=l.length)∨∃j:Nat,Lib.indexByte l 10=j∧j<l.length∧skp true l=j+skp false (l.drop j)∧l[j]?=some 10
 |[]=> .inl ⟨rfl,rfl⟩
 |c::l=>by
  by_cases hc:c=10
  ·subst hc
   exact .inr ⟨0,by simp[Lib.indexByte],by simp,by rw[List.drop_zero,skp_nl];simp,rfl⟩
  ·have hc':(c==10)=false:=by simpa using hc
   rcases idx_nl l with⟨h1,h2⟩|⟨j,h1,h2,h3,h4⟩
   ·exact .inl ⟨by simp[Lib.indexByte,hc,h1],by rw[skp_in hc',h2];rfl⟩
   ·refine .inr ⟨j+1,?_,by simpa using h2,by rw[skp_in hc',h3,List.drop_succ_cons];omega,by simpa using h4⟩
    simp only[Lib.indexByte,hc',h1]
    simp
theorem skip_com {l:Bs} (h:Lib.hasPrefix l [47,47]=true):skip l=skp true l∧l[0]?=some 47:=by
 match l,h with
 |[],h=>simp[Lib.hasPrefix] at h
 |[c],h=>simp[Lib.hasPrefix] at h
 |c::d::l,h=>
  simp[Lib.hasPrefix] at h
  obtain⟨rfl,rfl⟩:=h
  exact⟨by rw[show skip (47::47::l)=skp false (47::47::l) from rfl,skp_com rfl];simp[skp],rfl⟩
theorem skip_end {c:UInt8} {l:Bs} (h1:isBl c=false) (h:Lib.hasPrefix (c::l) [47,47]=false):skip (c::l)=0:=by
 refine skp_end h1 ?_
 cases l with
 |nil=>simp
 |cons d l=>
  rw[Bool.and_eq_false_iff]
  by_cases hc:c=47
  ·subst hc
   right
   by_cases hd:d=47
   ·subst hd
    rw[show Lib.hasPrefix (47::47::l) [47,47]=true by simp[Lib.hasPrefix]] at h;cases h
   ·simp[hd]
  ·left;simp[hc]
theorem x_skip (l:Bs) (hl:l.length<4611686018427387904):DCalls Tryz.prog 50 [bstr l] (int (skip l:Nat)):=by
 refine sx Tryz.func50 (by kernel_rfl) ?_
 conv=>whnf
 refine⟨[],Nat,fun k=>[(3,int k)],fun _=>[],fun k=>k≤l.length∧k+skip (l.drop k)=skip l,fun k=>l.length - k,0,⟨Nat.zero_le _,by simp⟩,?_,?_⟩
 ·refine⟨rfl,?_,?_⟩<;>repeat' (first|exact trivial|exact rfl|refine and_rfl ?_|refine and_two ?_ ?_)
 rintro k ⟨hk1,hk⟩
 conv=>whnf
 rintro(_|_) h2
 ·simp[mk_size] at h2
  rw[List.drop_eq_nil_of_le h2] at hk
  conv=>whnf
  exact fin_int (by simp[skp] at hk;omega)
 simp[mk_size] at h2
 have hdk:=drop_cons h2
 conv=>whnf
 refine⟨by omega,_,mk_at h2,?_⟩
 conv=>whnf
 refine⟨_,x_ofw l[k],?_⟩
 conv=>whnf
 rw[cls_bl]
 rintro(_|_) h3
 rotate_left
 ·rw[hdk,show skip (l[k]::l.drop (k+1))=skip (l.drop (k+1))+1 from skp_bl h3] at hk
  conv=>whnf
  refine⟨k+1,⟨by omega,by omega⟩,by dsimp only;omega,?_⟩
  refine⟨rfl,?_,?_⟩<;>repeat' (first|exact trivial|exact rfl|refine and_rfl ?_|refine and_val (wrap_succ (by omega)) ?_|refine and_two ?_ ?_)
 conv=>whnf
 refine⟨by omega,by rw[mk_size];omega,by omega,?_⟩
 rw[mk_fromI]
 conv=>whnf
 refine⟨_,x_hasPrefix (mk (l.drop k)) _,?_⟩
 conv=>whnf
 rintro(_|_) h4
 ·have h5:skip (l.drop k)=0:=by rw[hdk] at h4⊢;exact skip_end h3 h4
  conv=>whnf
  exact fin_int (by omega)
 obtain⟨h5,h6⟩:skip (l.drop k)=skp true (l.drop k)∧(l.drop k)[0]?=some 47:=skip_com h4
 conv=>whnf
 refine⟨by omega,by rw[mk_size];omega,by omega,?_⟩
 rw[mk_fromI]
 conv=>whnf
 refine⟨_,x_indexRune (mk (l.drop k)) 10 (by omega) (by omega),?_⟩
 have hidx:=idx_nl (l.drop k)
 rw[show Lib.indexByte (mk (l.drop k)).data.toList (10:Int).toNat.toUInt8=Lib.indexByte (l.drop k) 10 from rfl]
 rcases hidx with⟨e1,e2⟩|⟨j,e1,e2,e3,e4⟩
 ·rw[e1]
  conv=>whnf
  refine known true rfl ?_
  conv=>whnf
  exact fin_int (by rw[mk_size];simp only[List.length_drop] at e2;omega)
 ·rw[e1]
  conv=>whnf
  refine known false (by simp) ?_
  have hj:0<j:=by
   rcases Nat.eq_zero_or_pos j with e|e
   ·subst e;rw[h6] at e4;cases e4
   ·exact e
  simp only[List.length_drop] at e2
  rw[List.drop_drop] at e3
  conv=>whnf
  refine⟨k+j,⟨by omega,by rw[show skip (l.drop (k+j))=skp false (l.drop (k+j)) from rfl];omega⟩,by dsimp only;omega,?_⟩
  have hw:IntKind.i64.wrap ((k:Int)+(j:Int))=((k+j:Nat):Int):=by rw[IntWalk.i64_in _ (by omega)];rfl
  refine⟨rfl,?_,?_⟩<;>repeat' (first|exact trivial|exact rfl|refine and_rfl ?_|refine and_val hw ?_|refine and_two ?_ ?_)
theorem sEq_mk' {a b:Bs} {c:Bool} (h:sEq (mk a) (mk b)=c):(a==b)=c:=by rw[←h,sEq_mk]
theorem x_symbol (l:Bs) (hl:l.length<9223372036854775807):DCalls Tryz.prog 88 [bstr l] (boo (symB l)):=by
 refine sx Tryz.func88 (by kernel_rfl) ?_
 iterate 4 ((conv=>whnf);rintro(_|_) h;rotate_left;((conv=>whnf);exact fin_boo (by have h:=sEq_mk' h;unfold symB;rw[h];simp)))
 rename_i h1 h2 h3
 have h1:=sEq_mk' h1;have h2:=sEq_mk' h2;have h3:=sEq_mk' h3;have h4:=sEq_mk' h
 have e:symB l=(l.length==1&&l !=[33]&&isSy (l.headD 0)):=by unfold symB;rw[h1,h2,h3,h4];rfl
 conv=>whnf
 rintro(_|_) h5
 ·simp[mk_size] at h5
  conv=>whnf
  exact fin_boo (by rw[e,show(l.length==1)=false by simp;omega];rfl)
 simp[mk_size] at h5
 obtain⟨c,rfl⟩:∃c,l=[c]:=by
  match l,h5 with
  |[c],_=>exact⟨c,rfl⟩
 conv=>whnf
 rintro(_|_) h6
 ·have h6:(!sEq (mk [c]) (mk [33]))=false:=h6
  rw[sEq_mk] at h6
  conv=>whnf
  exact fin_boo (by rw[e];simp at h6;subst h6;rfl)
 have h6:(!sEq (mk [c]) (mk [33]))=true:=h6
 rw[sEq_mk] at h6
 conv=>whnf
 refine⟨by omega,_,(show(mk [c])[0]?=some c from rfl),?_⟩
 conv=>whnf
 refine⟨_,x_ofw c,?_⟩
 conv=>whnf
 exact fin_boo (by rw[cls_sy,e];simp at h6;simp[h6])
def sg:Bs:=[40,41,123,125,91,93,44,59,58,61,60,62,43,45,42,47,37]
theorem sym_sg (l:Bs) (h:l.length≠2):symB l=sg.any fun c=>l==[c]:=by
 match l,h with
 |[],_=>rfl
 |[c],_=>
  have:∀n:Fin 256,symB [UInt8.ofNat n.val]=sg.any fun c=>[UInt8.ofNat n.val]==[c]:=by decide+kernel
  have:=this ⟨c.toNat,c.toNat_lt⟩
  simpa using this
 |a::b::c::l,_=>
  have e:(sg.any fun d=>(a::b::c::l)==[d])=false:=by simp[sg]
  rw[e];unfold symB
  simp
theorem x_rsymbol (l:Bs) (_hl:l.length<9223372036854775807):DCalls Tryz.prog 143 [bstr l] (boo (symB l)):=by
 refine sx Tryz.func143 (by kernel_rfl) ?_
 conv=>whnf
 rintro(_|_) h0
 rotate_left
 ·simp[mk_size] at h0
  have e:symB l=(l==[61,61]||l==[33,61]||l==[60,61]||l==[62,61]):=by
   unfold symB;rw[show(l.length==1)=false by simp;omega];simp
  have n0:l.length=2:=by omega
  iterate 3 ((conv=>whnf);rintro(_|_) h;rotate_left;((conv=>whnf);exact fin_boo (by have h:=sEq_mk' h;rw[e,h];simp)))
  rename_i h1 h2
  have h1:=sEq_mk' h1;have h2:=sEq_mk' h2;have h3:=sEq_mk' h
  conv=>whnf
  exact fin_boo (by rw[e,h1,h2,h3];exact sEq_mk l [62,61])
 simp[mk_size] at h0
 rw[sym_sg l (by omega)]
 conv=>whnf
 refine⟨[],Nat,fun k=>[(24,int k)],fun _=>[],fun k=>k≤17∧((sg.take k).any fun c=>l==[c])=false,fun k=>17 - k,0,⟨Nat.zero_le _,rfl⟩,?_,?_⟩
 ·refine⟨rfl,?_,?_⟩<;>repeat' (first|exact trivial|exact rfl|refine and_rfl ?_|refine and_two ?_ ?_)
 rintro k ⟨hk1,hk⟩
 conv=>whnf
 rintro(_|_) h2
 ·have h2:decide ((k:Int)<((17:Nat):Int))=false:=h2
  simp at h2
  conv=>whnf
  exact fin_boo (by rw[←hk,List.take_of_length_le (show 17≤k by omega)])
 have h2:decide ((k:Int)<((17:Nat):Int))=true:=h2
 simp at h2
 have hks:k<sg.length:=show k<17 by omega
 have hw:IntKind.i64.wrap ((k:Int)+1)=((k+1:Nat):Int):=wrap_succ (by omega)
 conv=>whnf
 rw[hw]
 refine⟨by omega,by omega,(show((k+1:Nat):Int)≤((17:Nat):Int) by omega),?_⟩
 have he:(mk sg).extract ((k:Nat):Int).toNat ((k+1:Nat):Int).toNat=mk [sg[k]]:=by
  rw[Int.toNat_natCast,Int.toNat_natCast,mk_ext,List.drop_take]
  congr 1
  rw[List.drop_eq_getElem_cons hks,show k+1 - k=0+1 by omega,List.take_succ_cons,List.take_zero]
 rw[show(⟨#[40,41,123,125,91,93,44,59,58,61,60,62,43,45,42,47,37]⟩:ByteArray)=mk sg from rfl,he]
 conv=>whnf
 rintro(_|_) h3
 ·have h3:=sEq_mk' h3
  conv=>whnf
  refine⟨k+1,⟨by omega,by rw[List.take_succ_eq_append_getElem hks,List.any_append,hk];simp[h3]⟩,by dsimp only;omega,?_⟩
  refine⟨rfl,?_,?_⟩<;>repeat' (first|exact trivial|exact rfl|refine and_rfl ?_|refine and_val hw ?_|refine and_two ?_ ?_)
 ·have h3:=sEq_mk' h3
  conv=>whnf
  exact fin_boo (by symm;rw[List.any_eq_true];exact⟨sg[k],List.getElem_mem hks,h3⟩)
end Go.Proofs.YtglndfgmlminpaaGreatDoor
namespace Go.Proofs.YtglndfgmlminpaaGreatDoor
open Go.RowKit
abbrev txV (p:Bs×Nat×Int):V:= .tu [bstr p.1,int p.2.1,int p.2.2]
theorem fin_tx {p q:Bs×Nat×Int} (h:p=q):txV p=txV q:=by rw[h]
theorem txt_bad {c:UInt8} {l:Bs} {i:Nat} {out:Bs} (h:(decide (c<32)||decide (c>126))=true):txt (c::l) i out=([],i,1):=by
 unfold txt;rw[if_pos h]
theorem txt_end {l:Bs} {i:Nat} {out:Bs}:txt (34::l) i out=(out,i+1,0):=by
 unfold txt;rfl
theorem txt_bs0 {i:Nat} {out:Bs}:txt [92] i out=([],i,1):=by unfold txt;rfl
theorem txt_bs1 {d:UInt8} {l:Bs} {i:Nat} {out:Bs} (h:(d==34||d==92)=false):txt (92::d::l) i out=([],i,1):=by
 rw[show txt (92::d::l) i out=if d==34||d==92 then(if out.length=200 then([],0,3) else txt l (i+2) (out++[d])) else([],i,1) by rw[txt];rfl,h];rfl
theorem txt_bs2 {d:UInt8} {l:Bs} {i:Nat} {out:Bs} (h:(d==34||d==92)=true):txt (92::d::l) i out=if out.length=200 then([],0,3) else txt l (i+2) (out++[d]):=by
 rw[show txt (92::d::l) i out=if d==34||d==92 then(if out.length=200 then([],0,3) else txt l (i+2) (out++[d])) else([],i,1) by rw[txt];rfl,h];rfl
theorem txt_go {c:UInt8} {l:Bs} {i:Nat} {out:Bs} (h:(decide (c<32)||decide (c>126))=false) (h1:c≠34) (h2:c≠92):txt (c::l) i out=if out.length=200 then([],0,3) else txt l (i+1) (out++[c]):=by
 conv=>lhs;unfold txt
 rw[if_neg (by rw[h];simp),if_neg (by simpa using h1),if_neg (by simpa using h2)]
theorem rangeB (c:UInt8):(decide (c<32)||decide (c>126))=(decide ((c.toNat:Int)<32)||decide ((c.toNat:Int)>126)):=by
 rw[u8_lt c 32,show decide (c>126)=decide ((126:UInt8)<c) from rfl,u8_lt 126 c];rfl
theorem x_text (l:Bs) (h0:0<l.length) (hl:l.length<4611686018427387904):DCalls Tryz.prog 87 [bstr l] (txV (txt (l.drop 1) 1 [])):=by
 refine sxm [(1000009,false)] Tryz.func87 (by kernel_rfl) ?_
 conv=>whnf
 refine⟨[(5,67,5,1)],Nat×Bs,fun⟨k,acc⟩=>[(6,int k),(5,.ow 67 0)],fun⟨k,acc⟩=>[(67,some (.row 0 5 1 true (acc.map byteD)))],fun⟨k,acc⟩=>k≤l.length∧acc.length≤200∧txt (l.drop k) k acc=txt (l.drop 1) 1 [],fun x=>l.length - x.1,(1,[]),⟨h0,by simp,rfl⟩,?_,?_⟩
 ·refine⟨rfl,?_,?_⟩<;>repeat' (first|exact trivial|exact rfl|refine and_rfl ?_|refine and_two ?_ ?_)
 rintro⟨k,acc⟩ ⟨hk1,hk2,hk⟩
 conv=>whnf
 rintro(_|_) h2
 ·simp[mk_size] at h2
  rw[List.drop_eq_nil_of_le h2] at hk
  conv=>whnf
  exact fin_tx (p:=([],0,1)) hk
 simp[mk_size] at h2
 rw[drop_cons h2] at hk
 conv=>whnf
 refine⟨by omega,_,mk_at h2,?_⟩
 conv=>whnf
 rw[wrap_u8]
 rintro(_|_) h3
 rotate_left
 ·conv=>whnf
  exact fin_tx (p:=([],k,1)) (by rw[←hk,txt_bad (by rw[rangeB];simp at*;omega)])
 conv=>whnf
 rintro(_|_) h4
 rotate_left
 ·conv=>whnf
  exact fin_tx (p:=([],k,1)) (by rw[←hk,txt_bad (by rw[rangeB];simp at*;omega)])
 have hr:(decide (l[k]<32)||decide (l[k]>126))=false:=by rw[rangeB];simp at*;omega
 clear h3 h4
 conv=>whnf
 rintro(_|_) h3
 rotate_left
 ·have h3' : l[k] = 34 := by have:(l[k]==34)=true:=by rw[u8_eq];simp at*;omega
                             simpa using this
  conv=>whnf
  refine⟨_,_,ot_string (e:=5) rfl rfl rfl (by kernel_rfl) (by kernel_rfl) (by kernel_rfl),?_⟩
  rw[h3',txt_end] at hk
  have hw:IntKind.i64.wrap ((k:Int)+1)=((k+1:Nat):Int):=wrap_succ (by omega)
  conv=>whnf
  rw[hw]
  exact fin_tx (p:=(acc,k+1,0)) hk
 have h34:l[k]≠34:=by intro e;rw[e] at h3;simp at h3
 conv=>whnf
 rintro(_|_) h4
 ·have h92:l[k]≠92:=by intro e;rw[e] at h4;simp at h4
  rw[txt_go hr h34 h92] at hk
  conv=>whnf
  rintro(_|_) h5
  rotate_left
  ·simp at h5
   rw[if_pos (by omega)] at hk
   conv=>whnf
   exact fin_tx (p:=([],0,3)) hk
  simp at h5
  rw[if_neg (by omega)] at hk
  conv=>whnf
  refine⟨by omega,_,mk_at h2,?_⟩
  conv=>whnf
  refine⟨by simp;omega,?_⟩
  conv=>whnf
  refine⟨(k+1,acc++[l[k]]),⟨h2,by simp;omega,hk⟩,by dsimp only;omega,?_⟩
  refine⟨rfl,?_,?_⟩<;>repeat' (first|exact trivial|exact rfl|refine and_rfl ?_|refine and_val (wrap_succ (by omega)) ?_|refine and_two ?_ ?_|(simp[byteD];done))
 have h92 : l[k] = 92 := by have:(l[k]==92)=true:=by rw[u8_eq];simp at*;omega
                            simpa using this
 rw[h92] at hk
 have hw:IntKind.i64.wrap ((k:Int)+1)=((k+1:Nat):Int):=wrap_succ (by omega)
 conv=>whnf
 rw[hw]
 rintro(_|_) h5
 rotate_left
 ·simp[mk_size] at h5
  rw[List.drop_eq_nil_of_le (by omega),txt_bs0] at hk
  conv=>whnf
  exact fin_tx (p:=([],k,1)) hk
 simp[mk_size] at h5
 have hk2':k+1<l.length:=by omega
 rw[drop_cons hk2'] at hk
 conv=>whnf
 refine⟨by rw[hw];omega,_,(by rw[hw];exact mk_at hk2'),?_⟩
 conv=>whnf
 rintro(_|_) h6
 ·have h34 : l[k + 1] = 34 := by have:(l[k+1]==34)=true:=by rw[u8_eq];simp at*;omega
                                 simpa using this
  rw[txt_bs2 (by rw[h34];rfl)] at hk
  conv=>whnf
  rw[hw]
  rintro(_|_) h8
  rotate_left
  ·simp at h8
   rw[if_pos (by omega)] at hk
   conv=>whnf
   exact fin_tx (p:=([],0,3)) hk
  simp at h8
  rw[if_neg (by omega)] at hk
  conv=>whnf
  refine⟨by omega,_,mk_at hk2',?_⟩
  conv=>whnf
  refine⟨by simp;omega,?_⟩
  conv=>whnf
  refine⟨(k+2,acc++[l[k+1]]),⟨by omega,by simp;omega,hk⟩,by dsimp only;omega,?_⟩
  refine⟨rfl,?_,?_⟩<;>repeat' (first|exact trivial|exact rfl|refine and_rfl ?_|refine and_val (wrap_succ (k:=k+1) (by omega)) ?_|refine and_two ?_ ?_|(simp[byteD];done))
 conv=>whnf
 refine⟨by rw[hw];omega,_,(by rw[hw];exact mk_at hk2'),?_⟩
 conv=>whnf
 rw[wrap_u8]
 have n34:(l[k+1]==34)=false:=by rw[u8_eq];simp at*;omega
 rintro(_|_) h7
 ·have h92 : l[k + 1] = 92 := by have:(l[k+1]==92)=true:=by rw[u8_eq];simp at*;omega
                                 simpa using this
  rw[txt_bs2 (by rw[h92];rfl)] at hk
  conv=>whnf
  rw[hw]
  rintro(_|_) h8
  rotate_left
  ·simp at h8
   rw[if_pos (by omega)] at hk
   conv=>whnf
   exact fin_tx (p:=([],0,3)) hk
  simp at h8
  rw[if_neg (by omega)] at hk
  conv=>whnf
  refine⟨by omega,_,mk_at hk2',?_⟩
  conv=>whnf
  refine⟨by simp;omega,?_⟩
  conv=>whnf
  refine⟨(k+2,acc++[l[k+1]]),⟨by omega,by simp;omega,hk⟩,by dsimp only;omega,?_⟩
  refine⟨rfl,?_,?_⟩<;>repeat' (first|exact trivial|exact rfl|refine and_rfl ?_|refine and_val (wrap_succ (k:=k+1) (by omega)) ?_|refine and_two ?_ ?_|(simp[byteD];done))
 ·have n92:(l[k+1]==92)=false:=by rw[u8_eq];simp at*;omega
  rw[txt_bs1 (by rw[n34,n92];rfl)] at hk
  conv=>whnf
  exact fin_tx (p:=([],k,1)) hk
end Go.Proofs.YtglndfgmlminpaaGreatDoor
namespace Go.Proofs.YtglndfgmlminpaaGreatDoor
open Go.RowKit
abbrev rtxV (n:Nat) (p:Bs×Nat×Int):V:=if p.2.2=0 then .tu [bstr p.1,int (n+p.2.1:Nat),int 0,int 0] else .tu [bstr [],int 0,int (n+p.2.1:Nat),int p.2.2]
theorem fin_rtx {n:Nat} {p q:Bs×Nat×Int} (h:p=q):rtxV n p=rtxV n q:=by rw[h]
theorem mk_slice1 {l:Bs} {k:Nat} (h:k<l.length):(mk l).extract ((k:Nat):Int).toNat ((k+1:Nat):Int).toNat=mk [l[k]]:=by
 rw[Int.toNat_natCast,Int.toNat_natCast,mk_ext,List.drop_take]
 congr 1
 rw[List.drop_eq_getElem_cons h,show k+1 - k=0+1 by omega,List.take_succ_cons,List.take_zero]
theorem x_rtext (l:Bs) (n:Nat) (h0:n<l.length) (hl:l.length<4611686018427387904):DCalls Tryz.prog 100 [bstr l,int n] (rtxV n (txt (l.drop (n+1)) 1 [])):=by
 refine sx Tryz.func100 (by kernel_rfl) ?_
 conv=>whnf
 rw[wrap_succ (by omega)]
 refine⟨[],Nat×Bs,fun⟨j,acc⟩=>[(9,int (n+j:Nat)),(8,bstr acc)],fun _=>[],fun⟨j,acc⟩=>1≤j∧n+j≤l.length∧acc.length≤200∧txt (l.drop (n+j)) j acc=txt (l.drop (n+1)) 1 [],fun x=>l.length - x.1,(1,[]),⟨by omega,h0,by simp,rfl⟩,?_,?_⟩
 ·refine⟨rfl,?_,?_⟩<;>repeat' (first|exact trivial|exact rfl|refine and_rfl ?_|refine and_two ?_ ?_)
 rintro⟨j,acc⟩ ⟨hj,hk1,hk2,hk⟩
 conv=>whnf
 rintro(_|_) h2
 ·simp[mk_size] at h2
  rw[List.drop_eq_nil_of_le (by omega)] at hk
  conv=>whnf
  exact fin_rtx (p:=([],0,1)) hk
 have h2:n+j<l.length:=by simp[mk_size] at h2;omega
 rw[drop_cons h2] at hk
 have hw:IntKind.i64.wrap (((n+j:Nat):Int)+1)=((n+j+1:Nat):Int):=wrap_succ (by omega)
 conv=>whnf
 refine⟨by omega,_,mk_at h2,?_⟩
 conv=>whnf
 rintro(_|_) h3
 rotate_left
 ·have h3' : l[n + j] = 34 := by have:(l[n+j]==34)=true:=by rw[u8_eq];simp at*;omega
                                 simpa using this
  rw[h3',txt_end] at hk
  conv=>whnf
  rw[hw]
  exact fin_rtx (p:=(acc,j+1,0)) hk
 have h34:l[n+j]≠34:=by intro e;rw[e] at h3;simp at h3
 conv=>whnf
 refine⟨by omega,_,mk_at h2,?_⟩
 conv=>whnf
 rintro(_|_) h5
 rotate_left
 ·conv=>whnf
  exact fin_rtx (p:=([],j,1)) (by rw[←hk,txt_bad (by rw[rangeB];simp at*;omega)])
 conv=>whnf
 refine⟨by omega,_,mk_at h2,?_⟩
 conv=>whnf
 rintro(_|_) h4
 rotate_left
 ·conv=>whnf
  exact fin_rtx (p:=([],j,1)) (by rw[←hk,txt_bad (by rw[rangeB];simp at*;omega)])
 have hr:(decide (l[n+j]<32)||decide (l[n+j]>126))=false:=by rw[rangeB];simp at*;omega
 clear h5 h4
 conv=>whnf
 refine⟨by omega,_,mk_at h2,?_⟩
 conv=>whnf
 rintro(_|_) h4
 ·have h92:l[n+j]≠92:=by intro e;rw[e] at h4;simp at h4
  rw[txt_go hr h34 h92] at hk
  conv=>whnf
  rintro(_|_) h5
  rotate_left
  ·simp[mk_size] at h5
   rw[if_pos (by omega)] at hk
   conv=>whnf
   exact fin_rtx (p:=([],0,3)) hk
  simp[mk_size] at h5
  rw[if_neg (by omega)] at hk
  conv=>whnf
  rw[hw]
  refine⟨by omega,by omega,by rw[mk_size];omega,?_⟩
  rw[mk_slice1 h2]
  conv=>whnf
  rw[mk_app]
  refine⟨by rw[mk_size,mk_size];simp;omega,?_⟩
  conv=>whnf
  rw[hw]
  refine⟨(j+1,acc++[l[n+j]]),⟨by omega,by omega,by simp;omega,hk⟩,by dsimp only;omega,?_⟩
  refine⟨rfl,?_,?_⟩<;>repeat' (first|exact trivial|exact rfl|refine and_rfl ?_|refine and_two ?_ ?_)
 have h92 : l[n + j] = 92 := by have:(l[n+j]==92)=true:=by rw[u8_eq];simp at*;omega
                                simpa using this
 rw[h92] at hk
 conv=>whnf
 rw[hw]
 rintro(_|_) h5
 rotate_left
 ·simp[mk_size] at h5
  rw[List.drop_eq_nil_of_le (by omega),txt_bs0] at hk
  conv=>whnf
  exact fin_rtx (p:=([],j,1)) hk
 simp[mk_size] at h5
 have hk2':n+j+1<l.length:=by omega
 rw[drop_cons hk2'] at hk
 conv=>whnf
 refine⟨by rw[hw];omega,_,(by rw[hw];exact mk_at hk2'),?_⟩
 conv=>whnf
 rintro(_|_) h6
 ·have h34 : l[n + j + 1] = 34 := by have:(l[n+j+1]==34)=true:=by rw[u8_eq];simp at*;omega
                                     simpa using this
  rw[txt_bs2 (by rw[h34];rfl)] at hk
  conv=>whnf
  rw[hw]
  rintro(_|_) h8
  rotate_left
  ·simp[mk_size] at h8
   rw[if_pos (by omega)] at hk
   conv=>whnf
   exact fin_rtx (p:=([],0,3)) hk
  simp[mk_size] at h8
  rw[if_neg (by omega)] at hk
  conv=>whnf
  rw[wrap_succ (by omega)]
  refine⟨by omega,by omega,by rw[mk_size];omega,?_⟩
  rw[mk_slice1 hk2']
  conv=>whnf
  rw[mk_app]
  refine⟨by rw[mk_size,mk_size];simp;omega,?_⟩
  conv=>whnf
  rw[wrap_succ (by omega)]
  refine⟨(j+2,acc++[l[n+j+1]]),⟨by omega,by omega,by simp;omega,hk⟩,by dsimp only;omega,?_⟩
  refine⟨rfl,?_,?_⟩<;>repeat' (first|exact trivial|exact rfl|refine and_rfl ?_|refine and_two ?_ ?_)
 conv=>whnf
 refine⟨by rw[hw];omega,_,(by rw[hw];exact mk_at hk2'),?_⟩
 have n34:(l[n+j+1]==34)=false:=by rw[u8_eq];simp at*;omega
 conv=>whnf
 rintro(_|_) h7
 ·have h92 : l[n + j + 1] = 92 := by have:(l[n+j+1]==92)=true:=by rw[u8_eq];simp at*;omega
                                     simpa using this
  rw[txt_bs2 (by rw[h92];rfl)] at hk
  conv=>whnf
  rw[hw]
  rintro(_|_) h8
  rotate_left
  ·simp[mk_size] at h8
   rw[if_pos (by omega)] at hk
   conv=>whnf
   exact fin_rtx (p:=([],0,3)) hk
  simp[mk_size] at h8
  rw[if_neg (by omega)] at hk
  conv=>whnf
  rw[wrap_succ (by omega)]
  refine⟨by omega,by omega,by rw[mk_size];omega,?_⟩
  rw[mk_slice1 hk2']
  conv=>whnf
  rw[mk_app]
  refine⟨by rw[mk_size,mk_size];simp;omega,?_⟩
  conv=>whnf
  rw[wrap_succ (by omega)]
  refine⟨(j+2,acc++[l[n+j+1]]),⟨by omega,by omega,by simp;omega,hk⟩,by dsimp only;omega,?_⟩
  refine⟨rfl,?_,?_⟩<;>repeat' (first|exact trivial|exact rfl|refine and_rfl ?_|refine and_two ?_ ?_)
 ·have n92:(l[n+j+1]==92)=false:=by rw[u8_eq];simp at*;omega
  rw[txt_bs1 (by rw[n34,n92];rfl)] at hk
  conv=>whnf
  exact fin_rtx (p:=([],j,1)) hk
end Go.Proofs.YtglndfgmlminpaaGreatDoor
