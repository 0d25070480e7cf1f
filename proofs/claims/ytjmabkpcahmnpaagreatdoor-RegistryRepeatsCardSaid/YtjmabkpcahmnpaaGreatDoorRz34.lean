/- Texts joined by pack.py: XLx12 XLx13 XLx14 XLx15 XLx16 XLx17 XLx18 XLx19 XLx21 XLx22 XLx24 XSy3 XLx27 XSyWA XSyWB -/
import Derived.Test.YtjmabkpcahmnpaaGreatDoorRz33
import Derived.Test.YtjmabkpcahmnpaaGreatDoorRz22
import Derived.Test.YtjmabkpcahmnpaaGreatDoorRz29
import Derived.Tactics
import Derived.Tactics2
import Derived.Defers
import Derived.Laws.Pointers
import Derived.Laws.LoneSync
import Derived.RegionTactic
import Derived.RegionCalls
import Derived.ChangeAlike
import Derived.Test.YtjmabkpcahmnpaaGreatDoorRz23
import Derived.Test.YtjmabkpcahmnpaaGreatDoorRz21
import Derived.LoopN
set_option maxHeartbeats 4000000
set_option maxRecDepth 100000
namespace Go.Proofs.YtjmabkpcahmnpaaGreatDoor
open Go.RowKit
theorem cls_qt (c:UInt8):(cls c==4)=(c==34):=by
 have:∀n:Fin 256,(cls (UInt8.ofNat n.val)==4)=(UInt8.ofNat n.val==34):=by decide+kernel
 have:=this ⟨c.toNat,c.toNat_lt⟩
 simpa using this
theorem cls_at (c:UInt8):(cls c==5)=(c==64):=by
 have:∀n:Fin 256,(cls (UInt8.ofNat n.val)==5)=(UInt8.ofNat n.val==64):=by decide+kernel
 have:=this ⟨c.toNat,c.toNat_lt⟩
 simpa using this
abbrev tkV (p:Tok×Nat×Int):V:= .tu [p.1.V,int p.2.1,int p.2.2]
theorem tok1_hd {c:UInt8} {r:Bs} (h:isHd c=true):tok1 (c::r)=if runL (c::r)>24 then(noTok,0,3) else if kwL ((c::r).take (runL (c::r))) then(⟨2,(c::r).take (runL (c::r)),0,0⟩,runL (c::r),0) else(⟨1,(c::r).take (runL (c::r)),0,0⟩,runL (c::r),0):=by
 unfold tok1;simp only[h,if_true]
theorem tok1_dg {c:UInt8} {r:Bs} (h1:isHd c=false) (h:isDg c=true):tok1 (c::r)=if(pnum ((c::r).take (digL (c::r)))).2=0 then(⟨3,[],(pnum ((c::r).take (digL (c::r)))).1,0⟩,digL (c::r),0) else(noTok,0,(pnum ((c::r).take (digL (c::r)))).2):=by
 unfold tok1;simp only[h1,h,if_true,Bool.false_eq_true,if_false]
theorem tok1_qt {r:Bs}:tok1 (34::r)=if(txt r 1 []).2.2=0 then(⟨4,(txt r 1 []).1,0,0⟩,(txt r 1 []).2.1,0) else(noTok,(txt r 1 []).2.1,(txt r 1 []).2.2):=by
 unfold tok1;rfl
theorem tok1_at {r:Bs}:tok1 (64::r)=if runL r=0 then(noTok,0,1) else if runL r>24 then(noTok,0,3) else(⟨6,r.take (runL r),0,0⟩,runL r+1,0):=by
 unfold tok1;rfl
theorem tok1_sy {c:UInt8} {r:Bs} (h1:isHd c=false) (h2:isDg c=false) (h3:(c==34)=false) (h4:(c==64)=false):tok1 (c::r)=if 2≤(c::r).length∧symB ((c::r).take 2) then(⟨5,(c::r).take 2,0,0⟩,2,0)
  else if symB ((c::r).take 1) then(⟨5,(c::r).take 1,0,0⟩,1,0) else(noTok,0,1):=by
 unfold tok1;simp only[h1,h2,h3,h4,Bool.false_eq_true,if_false]
theorem runT_le:∀l:Bs,runT l≤l.length
 |[]=>Nat.le_refl _
 |c::l=>by have:=runT_le l;simp only[runT,List.length_cons];split<;>omega
theorem runL_le:∀l:Bs,runL l≤l.length
 |[]=>Nat.le_refl _
 |c::l=>by have:=runT_le l;simp only[runL,List.length_cons];split<;>omega
theorem mk_toI (l:Bs) (k:Nat):(mk l).extract (0:Int).toNat ((k:Nat):Int).toNat=mk (l.take k):=by
 rw[Int.toNat_natCast];exact mk_to l k
theorem x_keywordL (l:Bs):DCalls Tryz.prog 161 [bstr l] (boo (kwL l)):=x_keyword (mk l)
theorem x_token (c:UInt8) (r:Bs) (hl:(c::r).length≤281474976710656):DCalls Tryz.prog 126 [bstr (c::r)] (tkV (tok1 (c::r))):=by
 refine sx Tryz.func126 (by kernel_rfl) ?_
 conv=>whnf
 refine⟨by omega,_,(show(mk (c::r))[0]?=some c by rw[mk_get];rfl),?_⟩
 conv=>whnf
 refine⟨_,x_ofw c,?_⟩
 conv=>whnf
 rw[cls_hd]
 rintro(_|_) h1
 rotate_left
 ·have hrl:=runL_le (c::r)
  rw[tok1_hd h1]
  generalize hL:c::r=l at*
  conv=>whnf
  refine⟨_,x_run l (by omega),?_⟩
  conv=>whnf
  rintro(_|_) h2
  rotate_left
  ·simp at h2
   rw[if_pos (by omega)]
   (conv=>whnf)<;>rfl
  simp at h2
  rw[if_neg (by omega)]
  conv=>whnf
  refine⟨by omega,by omega,by rw[mk_size];omega,?_⟩
  rw[mk_toI]
  conv=>whnf
  refine⟨_,x_keywordL _,?_⟩
  conv=>whnf
  rintro(_|_) h3
  ·rw[if_neg (by rw[h3];simp)]
   conv=>whnf
   refine⟨by omega,by omega,by rw[mk_size];omega,?_⟩
   rw[mk_toI]
   (conv=>whnf)<;>rfl
  ·rw[if_pos h3]
   conv=>whnf
   refine⟨by omega,by omega,by rw[mk_size];omega,?_⟩
   rw[mk_toI]
   (conv=>whnf)<;>rfl
 conv=>whnf
 rw[cls_dg]
 rintro(_|_) h2
 rotate_left
 ·have hdl:=digL_le (c::r)
  have hdig:=digs_take (l:=r) h2
  rw[tok1_dg h1 h2]
  generalize hL:c::r=l at*
  conv=>whnf
  refine⟨_,x_digits l (by omega),?_⟩
  conv=>whnf
  refine⟨by omega,by omega,by rw[mk_size];omega,?_⟩
  rw[mk_toI]
  conv=>whnf
  refine⟨_,x_parse _ hdig (by rw[List.length_take];omega),?_⟩
  conv=>whnf
  rintro(_|_) h3
  ·simp at h3
   rw[if_pos h3]
   (conv=>whnf)<;>rfl
  ·simp at h3
   rw[if_neg h3]
   (conv=>whnf)<;>rfl
 conv=>whnf
 rw[cls_qt]
 rintro(_|_) h3
 rotate_left
 ·have h3':c=34:=by simpa using h3
  subst h3'
  rw[tok1_qt]
  conv=>whnf
  refine⟨_,x_text (34::r) (by simp) (by omega),?_⟩
  rw[show txt (List.drop 1 (34::r)) 1 []=txt r 1 [] from rfl]
  conv=>whnf
  rintro(_|_) h4
  ·simp at h4
   rw[if_pos h4]
   (conv=>whnf)<;>rfl
  ·simp at h4
   rw[if_neg h4]
   (conv=>whnf)<;>rfl
 conv=>whnf
 rw[cls_at]
 rintro(_|_) h4
 rotate_left
 ·have h4':c=64:=by simpa using h4
  subst h4'
  rw[tok1_at]
  have hrl:=runL_le r
  have hl':(64::r).length=r.length+1:=rfl
  conv=>whnf
  refine⟨by omega,by rw[mk_size];omega,by omega,?_⟩
  rw[show(mk (64::r)).extract (1:Int).toNat (((mk (64::r)).size:Nat):Int).toNat=mk r from mk_fromI (64::r) 1]
  conv=>whnf
  refine⟨_,x_run r (by omega),?_⟩
  conv=>whnf
  rintro(_|_) h5
  rotate_left
  ·simp at h5
   rw[if_pos (by omega)]
   (conv=>whnf)<;>rfl
  simp at h5
  rw[if_neg (by omega)]
  conv=>whnf
  rintro(_|_) h6
  rotate_left
  ·simp at h6
   rw[if_pos (by omega)]
   (conv=>whnf)<;>rfl
  simp at h6
  rw[if_neg (by omega)]
  have hw:IntKind.i64.wrap ((runL r:Int)+1)=((runL r+1:Nat):Int):=wrap_succ (by omega)
  conv=>whnf
  rw[hw]
  refine⟨by omega,by omega,by rw[mk_size];omega,?_⟩
  have e:(mk (64::r)).extract (1:Int).toNat ((runL r+1:Nat):Int).toNat=mk (r.take (runL r)):=by
   rw[Int.toNat_natCast,mk_ext];rfl
  rw[e]
  conv=>whnf
  rw[hw]
 rw[tok1_sy h1 h2 h3 h4]
 have hpos:1≤(c::r).length:=by simp
 generalize hL:c::r=l at*
 obtain⟨n0,e0,a1,a2,a3⟩:∃n0:Nat,(if(((mk l).size:Nat):Int)<2 then(((mk l).size:Nat):Int) else 2)=((n0:Nat):Int)∧n0≤l.length∧(l.length<2→n0=1)∧(2≤l.length→n0=2):=by
  rw[mk_size]
  by_cases h:l.length<2
  ·exact⟨l.length,by rw[if_pos (by omega)],by omega,by omega,by omega⟩
  ·exact⟨2,by rw[if_neg (by omega)];rfl,by omega,by omega,by omega⟩
 conv=>whnf
 rw[e0]
 refine⟨[],Nat,fun n=>[(14,int n)],fun _=>[],fun n=>n≤l.length∧n≤2∧(if 2≤l.length∧symB (l.take 2) then((⟨5,l.take 2,0,0⟩:Tok),2,(0:Int)) else if symB (l.take 1) then(⟨5,l.take 1,0,0⟩,1,0) else(noTok,0,1))=
  (if 2≤n∧symB (l.take 2) then((⟨5,l.take 2,0,0⟩:Tok),2,(0:Int)) else if 1≤n∧symB (l.take 1) then(⟨5,l.take 1,0,0⟩,1,0) else(noTok,0,1)),fun n=>n,n0,⟨a1,by omega,by
   by_cases h:l.length<2
   ·rw[a2 h];simp[show¬2≤l.length by omega]
   ·rw[a3 (by omega)];simp[show 2≤l.length by omega]⟩,?_,?_⟩
 ·refine⟨rfl,?_,?_⟩<;>repeat' (first|exact trivial|exact rfl|refine and_rfl ?_|refine and_two ?_ ?_)
 rintro n ⟨b1,b2,hI⟩
 conv=>whnf
 rintro(_|_) h5
 ·simp at h5
  subst h5
  rw[hI]
  (conv=>whnf)<;>rfl
 simp at h5
 conv=>whnf
 refine⟨by omega,by omega,by rw[mk_size];omega,?_⟩
 rw[mk_toI]
 conv=>whnf
 refine⟨_,x_symbol (l.take n) (by rw[List.length_take];omega),?_⟩
 conv=>whnf
 rintro(_|_) h6
 ·conv=>whnf
  refine⟨n - 1,⟨by omega,by omega,by
   rw[hI]
   rcases(by omega:n=1∨n=2) with rfl|rfl
   ·rw[h6];simp
   ·rw[h6];simp⟩,by dsimp only;omega,?_⟩
  have hw:IntKind.i64.wrap ((n:Int) - 1)=((n - 1:Nat):Int):=by rw[IntWalk.i64_in _ (by omega)];omega
  refine⟨rfl,?_,?_⟩<;>repeat' (first|exact trivial|exact rfl|refine and_rfl ?_|refine and_val hw ?_|refine and_two ?_ ?_)
 ·rw[hI]
  conv=>whnf
  refine⟨by omega,by omega,by rw[mk_size];omega,?_⟩
  rw[mk_toI]
  rcases(by omega:n=1∨n=2) with rfl|rfl
  ·rw[if_neg (by omega),if_pos ⟨by omega,h6⟩]
   (conv=>whnf)<;>rfl
  ·rw[if_pos ⟨by omega,h6⟩]
   (conv=>whnf)<;>rfl
end Go.Proofs.YtjmabkpcahmnpaaGreatDoor
namespace Go.Proofs.YtjmabkpcahmnpaaGreatDoor
open Go.RowKit
end Go.Proofs.YtjmabkpcahmnpaaGreatDoor
namespace Go.Proofs.YtjmabkpcahmnpaaGreatDoor
open Go.RowKit
theorem txt_len:∀(l:Bs) (i:Nat) (out:Bs),(txt l i out).2.2=0→i+1≤(txt l i out).2.1∧(txt l i out).2.1≤i+l.length
 |[],i,out,h=>by simp[txt] at h
 |c::l,i,out,h=>by
  by_cases h1:(decide (c<32)||decide (c>126))=true
  ·rw[txt_bad h1] at h;simp at h
  have h1:(decide (c<32)||decide (c>126))=false:=by simpa using h1
  by_cases h2:c=34
  ·subst h2;rw[txt_end];simp
  by_cases h3:c=92
  ·subst h3
   cases l with
   |nil=>rw[txt_bs0] at h;simp at h
   |cons d l=>
    by_cases h4:(d==34||d==92)=true
    ·rw[txt_bs2 h4] at h⊢
     split at h
     ·simp at h
     ·rename_i h5
      rw[if_neg h5]
      have:=txt_len l (i+2) (out++[d]) h
      simp only[List.length_cons];omega
    ·rw[txt_bs1 (by simpa using h4)] at h;simp at h
  rw[txt_go h1 h2 h3] at h⊢
  split at h
  ·simp at h
  ·rename_i h5
   rw[if_neg h5]
   have:=txt_len l (i+1) (out++[c]) h
   simp only[List.length_cons];omega
theorem runL_pos {c:UInt8} {r:Bs} (h:isHd c=true):1≤runL (c::r):=by simp[runL,h]
theorem digL_pos {c:UInt8} {r:Bs} (h:isDg c=true):1≤digL (c::r):=by simp[digL,h]
theorem tok1_len (c:UInt8) (r:Bs) (h:(tok1 (c::r)).2.2=0):1≤(tok1 (c::r)).2.1∧(tok1 (c::r)).2.1≤(c::r).length:=by
 cases h1:isHd c with
 |true=>
  have a:=runL_pos (r:=r) h1
  have b:=runL_le (c::r)
  rw[tok1_hd h1] at h⊢
  split at h
  ·simp at h
  ·rename_i h2;rw[if_neg h2];split<;>exact⟨a,b⟩
 |false=>
 cases h2:isDg c with
 |true=>
  have a:=digL_pos (r:=r) h2
  have b:=digL_le (c::r)
  rw[tok1_dg h1 h2] at h⊢
  split at h
  ·rename_i h3;rw[if_pos h3];exact⟨a,b⟩
  ·rename_i h3;exact absurd h h3
 |false=>
 cases h3:(c==34) with
 |true=>
  have:c=34:=by simpa using h3
  subst this
  rw[tok1_qt] at h⊢
  split at h
  ·rename_i h4;rw[if_pos h4];have:=txt_len r 1 [] h4;simp only[List.length_cons];omega
  ·rename_i h4;exact absurd h h4
 |false=>
 cases h4:(c==64) with
 |true=>
  have:c=64:=by simpa using h4
  subst this
  have b:=runL_le r
  rw[tok1_at] at h⊢
  split at h
  ·simp at h
  ·rename_i h5;rw[if_neg h5]
   split at h
   ·simp at h
   ·rename_i h6;rw[if_neg h6];simp only[List.length_cons];omega
 |false=>
  rw[tok1_sy h1 h2 h3 h4] at h⊢
  split at h
  ·rename_i h5;rw[if_pos h5];exact⟨by simp,h5.1⟩
  ·rename_i h5;rw[if_neg h5]
   split at h
   ·rename_i h6;rw[if_pos h6];simp
   ·simp at h
theorem toksF_succ (f:Nat) (c:UInt8) (r:Bs) (at_:Nat) (out:List Tok):toksF (f+1) (c::r) at_ out=if out.length=1000 then([],at_,3) else if(tok1 (c::r)).2.2=0 then
  toksF f ((c::r).drop ((tok1 (c::r)).2.1+skip ((c::r).drop (tok1 (c::r)).2.1))) (at_+(tok1 (c::r)).2.1+skip ((c::r).drop (tok1 (c::r)).2.1)) (out++[{(tok1 (c::r)).1 with at_:=at_}])
  else([],at_+(tok1 (c::r)).2.1,(tok1 (c::r)).2.2):=by
 conv=>lhs;unfold toksF
 rw[if_neg (by simp)]
theorem toksF_fuel:∀(f g:Nat) (l:Bs) (at_:Nat) (out:List Tok),l.length≤f→l.length≤g→toksF f l at_ out=toksF g l at_ out
 |0,0,l,at_,out,_,_=>rfl
 |0,g+1,l,at_,out,hf,_=>by
  have:l=[]:=List.eq_nil_of_length_eq_zero (by omega)
  subst this;simp[toksF]
 |f+1,0,l,at_,out,_,hg=>by
  have:l=[]:=List.eq_nil_of_length_eq_zero (by omega)
  subst this;simp[toksF]
 |f+1,g+1,l,at_,out,hf,hg=>by
  cases l with
  |nil=>simp[toksF]
  |cons c r=>
   rw[toksF_succ,toksF_succ]
   split
   ·rfl
   ·split
    ·rename_i h
     have:=tok1_len c r h
     simp only[List.length_cons] at hf hg this
     exact toksF_fuel f g _ _ _ (by rw[List.length_drop,List.length_cons];omega) (by rw[List.length_drop,List.length_cons];omega)
    ·rfl
def TKs (l:Bs) (at_:Nat) (out:List Tok):List Tok×Nat×Int:=toksF l.length l at_ out
theorem TKs_nil (at_:Nat) (out:List Tok):TKs [] at_ out=(out,0,0):=rfl
theorem TKs_full {c:UInt8} {r:Bs} {at_:Nat} {out:List Tok} (h:out.length=1000):TKs (c::r) at_ out=([],at_,3):=by
 unfold TKs;rw[List.length_cons,toksF_succ,if_pos h]
theorem TKs_err {c:UInt8} {r:Bs} {at_:Nat} {out:List Tok} (h:out.length≠1000) (he:(tok1 (c::r)).2.2≠0):TKs (c::r) at_ out=([],at_+(tok1 (c::r)).2.1,(tok1 (c::r)).2.2):=by
 unfold TKs;rw[List.length_cons,toksF_succ,if_neg h,if_neg he]
theorem TKs_ok {c:UInt8} {r:Bs} {at_:Nat} {out:List Tok} (h:out.length≠1000) (he:(tok1 (c::r)).2.2=0):TKs (c::r) at_ out=
  TKs ((c::r).drop ((tok1 (c::r)).2.1+skip ((c::r).drop (tok1 (c::r)).2.1))) (at_+(tok1 (c::r)).2.1+skip ((c::r).drop (tok1 (c::r)).2.1)) (out++[{(tok1 (c::r)).1 with at_:=at_}]):=by
 have hl:=tok1_len c r he
 simp only[List.length_cons] at hl
 unfold TKs
 rw[List.length_cons,toksF_succ,if_neg h,if_pos he]
 exact toksF_fuel _ _ _ _ _ (by rw[List.length_drop,List.length_cons];omega) (Nat.le_refl _)
theorem skp_le:∀(b:Bool) (l:Bs),skp b l≤l.length
 |_,[]=>Nat.zero_le _
 |false,c::l=>by
  have h1:=skp_le false l
  have h2:=skp_le true l
  simp only[skp,List.length_cons]
  split
  ·omega
  ·split<;>omega
 |true,c::l=>by
  have h1:=skp_le false l
  have h2:=skp_le true l
  simp only[skp,List.length_cons]
  split<;>omega
theorem tokens_TKs (l:Bs) (h:l.length≤4000):tokens l=TKs (l.drop (skip l)) (skip l) []:=by
 unfold tokens TKs
 rw[if_neg (by omega)]
 exact toksF_fuel _ _ _ _ _ (by rw[List.length_drop];omega) (Nat.le_refl _)
end Go.Proofs.YtjmabkpcahmnpaaGreatDoor
namespace Go.Proofs.YtjmabkpcahmnpaaGreatDoor
open Go.RowKit
abbrev tksV (p:List Tok×Nat×Int):V:= .tu [toks p.1,int p.2.1,int p.2.2]
theorem txt_le:∀(l:Bs) (i:Nat) (out:Bs),(txt l i out).2.1≤i+l.length
 |[],i,out=>by simp[txt]
 |c::l,i,out=>by
  by_cases h1:(decide (c<32)||decide (c>126))=true
  ·rw[txt_bad h1];simp
  have h1:(decide (c<32)||decide (c>126))=false:=by simpa using h1
  by_cases h2:c=34
  ·subst h2;rw[txt_end];simp only[List.length_cons];omega
  by_cases h3:c=92
  ·subst h3
   cases l with
   |nil=>rw[txt_bs0];simp
   |cons d l=>
    by_cases h4:(d==34||d==92)=true
    ·rw[txt_bs2 h4]
     split
     ·simp
     ·have:=txt_le l (i+2) (out++[d])
      simp only[List.length_cons];omega
    ·rw[txt_bs1 (by simpa using h4)];simp
  rw[txt_go h1 h2 h3]
  split
  ·simp
  ·have:=txt_le l (i+1) (out++[c])
   simp only[List.length_cons];omega
theorem tok1_le' (c:UInt8) (r:Bs):(tok1 (c::r)).2.1≤(c::r).length:=by
 by_cases h:(tok1 (c::r)).2.2=0
 ·exact(tok1_len c r h).2
 cases h1:isHd c with
 |true=>
  rw[tok1_hd h1] at h⊢
  split at h<;>rename_i h2
  ·rw[if_pos h2];simp
  ·split at h<;>simp at h
 |false=>
 cases h2:isDg c with
 |true=>
  rw[tok1_dg h1 h2] at h⊢
  split at h<;>rename_i h3
  ·simp at h
  ·rw[if_neg h3];simp
 |false=>
 cases h3:(c==34) with
 |true=>
  have:c=34:=by simpa using h3
  subst this
  rw[tok1_qt] at h⊢
  split at h<;>rename_i h4
  ·simp at h
  ·rw[if_neg h4];have:=txt_le r 1 [];simp only[List.length_cons];omega
 |false=>
 cases h4:(c==64) with
 |true=>
  have:c=64:=by simpa using h4
  subst this
  rw[tok1_at] at h⊢
  split at h<;>rename_i h5
  ·rw[if_pos h5];simp
  ·split at h<;>rename_i h6
   ·rw[if_neg h5,if_pos h6];simp
   ·simp at h
 |false=>
  rw[tok1_sy h1 h2 h3 h4] at h⊢
  split at h<;>rename_i h5
  ·simp at h
  ·split at h<;>rename_i h6
   ·simp at h
   ·rw[if_neg h5,if_neg h6];simp
theorem tok1_le (c:UInt8) (r:Bs) {n:Nat} (h:(c::r).length≤n):(tok1 (c::r)).2.1≤n:=Nat.le_trans (tok1_le' c r) h
theorem x_tokens (l:Bs) (hl:l.length≤281474976710656):DCalls Tryz.prog 94 [bstr l] (tksV (tokens l)):=by
 refine sx Tryz.func94 (by kernel_rfl) ?_
 conv=>whnf
 rintro(_|_) h0
 rotate_left
 ·simp[mk_size] at h0
  rw[show tokens l=([],0,3) by unfold tokens;rw[if_pos (by omega)]]
  (conv=>whnf)<;>rfl
 simp[mk_size] at h0
 have hlen:l.length≤4000:=by omega
 rw[tokens_TKs l hlen]
 conv=>whnf
 refine⟨_,x_skip l (by omega),?_⟩
 have hsk:skip l≤l.length:=skp_le false l
 generalize hR:TKs (l.drop (skip l)) (skip l) []=R
 conv=>whnf
 refine⟨[(5,48,209,4)],Nat×List Tok,fun⟨k,out⟩=>[(6,int k),(5,.ow 48 0),(7,.un)],fun⟨k,out⟩=>[(48,some (.row 0 209 4 true (out.map tokD))),(7,none)],fun⟨k,out⟩=>k≤l.length∧out.length≤1000∧TKs (l.drop k) k out=R,fun x=>l.length - x.1,(skip l,[]),⟨hsk,by simp,hR⟩,?_,?_⟩
 ·refine⟨rfl,?_,?_⟩<;>repeat' (first|exact trivial|exact rfl|refine and_rfl ?_|refine and_two ?_ ?_)
 rintro⟨k,out⟩ ⟨hk1,hk2,hk⟩
 conv=>whnf
 rintro(_|_) h2
 ·simp[mk_size] at h2
  rw[List.drop_eq_nil_of_le h2,TKs_nil] at hk
  rw[←hk]
  (conv=>whnf)<;>rfl
 have h2:k<l.length:=by simp only[mk_size] at h2;simp at h2;omega
 have hd:=drop_cons h2
 conv=>whnf
 rintro(_|_) h3
 rotate_left
 ·simp at h3
  rw[hd,TKs_full (by omega)] at hk
  rw[←hk]
  (conv=>whnf)<;>rfl
 have h3:out.length≠1000:=by simp at h3;omega
 conv=>whnf
 refine⟨by omega,by rw[mk_size];omega,by omega,?_⟩
 rw[mk_fromI,hd]
 have hlc:(l[k]::l.drop (k+1)).length=l.length - k:=by rw[←hd,List.length_drop]
 conv=>whnf
 refine⟨_,x_token l[k] (l.drop (k+1)) (by omega),?_⟩
 have hcr:l.drop k=l[k]::l.drop (k+1):=hd
 generalize l.drop (k+1)=r at*
 have hdrop:∀a b,l.drop (k+a+b)=(l[k]::r).drop (a+b):=fun a b=>by rw[←hcr,List.drop_drop,Nat.add_assoc]
 generalize l[k]=c at*
 rw[hcr] at hk
 conv=>whnf
 rintro(_|_) h4
 rotate_left
 ·have h4:(tok1 (c::r)).2.2≠0:=by simpa using h4
  rw[TKs_err h3 h4] at hk
  rw[←hk]
  have hb:(tok1 (c::r)).2.1≤281474976710656:=tok1_le c r (by omega)
  conv=>whnf
  rw[show IntKind.i64.wrap ((k:Int)+((tok1 (c::r)).2.1:Nat))=((k+(tok1 (c::r)).2.1:Nat):Int) by rw[IntWalk.i64_in _ (by omega)];omega]
  rfl
 have h4:(tok1 (c::r)).2.2=0:=by simpa using h4
 rw[TKs_ok h3 h4] at hk
 have hl4:=tok1_len c r h4
 have hw:IntKind.i64.wrap ((k:Int)+((tok1 (c::r)).2.1:Nat))=((k+(tok1 (c::r)).2.1:Nat):Int):=by rw[IntWalk.i64_in _ (by omega)];omega
 conv=>whnf
 refine⟨by simp;omega,?_⟩
 conv=>whnf
 rw[hw]
 refine⟨by omega,by rw[mk_size];omega,by omega,?_⟩
 rw[mk_fromI,←List.drop_drop,hcr]
 have hsk2:skip ((c::r).drop (tok1 (c::r)).2.1)≤((c::r).drop (tok1 (c::r)).2.1).length:=skp_le false _
 rw[List.length_drop] at hsk2
 conv=>whnf
 refine⟨_,x_skip ((c::r).drop (tok1 (c::r)).2.1) (by rw[List.length_drop];omega),?_⟩
 have hw2:IntKind.i64.wrap (((k+(tok1 (c::r)).2.1:Nat):Int)+((skip ((c::r).drop (tok1 (c::r)).2.1):Nat):Int))=((k+(tok1 (c::r)).2.1+skip ((c::r).drop (tok1 (c::r)).2.1):Nat):Int):=by rw[IntWalk.i64_in _ (by omega)];omega
 conv=>whnf
 refine⟨(k+(tok1 (c::r)).2.1+skip ((c::r).drop (tok1 (c::r)).2.1),out++[{(tok1 (c::r)).1 with at_:=k}]),⟨by omega,by simp;omega,by rw[hdrop];exact hk⟩,by dsimp only;omega,?_⟩
 refine⟨rfl,?_,?_⟩<;>repeat' (first|exact trivial|exact rfl|refine and_rfl ?_|refine and_val hw2 ?_|refine and_two ?_ ?_|(simp[tokD];done))
end Go.Proofs.YtjmabkpcahmnpaaGreatDoor
namespace Go.Proofs.YtjmabkpcahmnpaaGreatDoor
open Go.RowKit
end Go.Proofs.YtjmabkpcahmnpaaGreatDoor
namespace Go.Proofs.YtjmabkpcahmnpaaGreatDoor
open Go.RowKit
def sp (c:UInt8):Bool:=c==34||c==92
def ex (l:Bs):Nat:=l.count 92+l.count 34
theorem x_count (s:ByteArray) (c:UInt8):DCalls Tryz.prog 237 [str s,bstr [c]] (int (s.data.toList.count c:Nat)):=
 dcalls_val Tryz.func237 (by kernel_rfl) (by kernel_rfl) rfl rfl fun w _=>(Tryz.strings_Count_one s c w).mono fun e w' ⟨h1,h2⟩=>⟨h1,h2▸Below.refl _ _⟩
end Go.Proofs.YtjmabkpcahmnpaaGreatDoor
namespace Go.Proofs.YtjmabkpcahmnpaaGreatDoor
open Go.RowKit
section
variable {P:Program} {o:Oper} {E:Operand→V} {m:List (Option Bk)}
end
end Go.Proofs.YtjmabkpcahmnpaaGreatDoor
namespace Go.Proofs.YtjmabkpcahmnpaaGreatDoor
open Go.RowKit
end Go.Proofs.YtjmabkpcahmnpaaGreatDoor
namespace Go.Proofs.YtjmabkpcahmnpaaGreatDoor
open Go.RowKit
end Go.Proofs.YtjmabkpcahmnpaaGreatDoor
namespace Go.Proofs.YtjmabkpcahmnpaaGreatDoor
open Go.RowKit
theorem te_int (l:Bs) (v a:Int):textT ⟨3,l,v,a⟩=if l.isEmpty=true∧0≤v∧validB v=true then(Lib.itoa v,0) else([],1):=by
 unfold textT;cases l<;>simp
theorem te_name (l:Bs) (v a:Int):textT ⟨1,l,v,a⟩=if v≠0 then([],1) else if wholeB l=true∧kwL l=false then(l,0) else([],1):=by
 unfold textT;simp
theorem te_word (l:Bs) (v a:Int):textT ⟨2,l,v,a⟩=if v≠0 then([],1) else if kwL l=true then(l,0) else([],1):=by
 unfold textT;simp
theorem te_str (l:Bs) (v a:Int):textT ⟨4,l,v,a⟩=if v≠0 then([],1) else if contB l=true then(34::(esc l++[34]),0) else([],1):=by
 unfold textT;simp
theorem te_sym (l:Bs) (v a:Int):textT ⟨5,l,v,a⟩=if v≠0 then([],1) else if symB l=true then(l,0) else([],1):=by
 unfold textT;simp
theorem te_host (l:Bs) (v a:Int):textT ⟨6,l,v,a⟩=if v≠0 then([],1) else if wholeB l=true then(64::l,0) else([],1):=by
 unfold textT;simp
theorem te_no (K:Int) (l:Bs) (v a:Int) (h:K≠1∧K≠2∧K≠3∧K≠4∧K≠5∧K≠6):textT ⟨K,l,v,a⟩=([],1):=by
 unfold textT;simp[h.1,h.2.1,h.2.2.1,h.2.2.2.1,h.2.2.2.2.1,h.2.2.2.2.2]
end Go.Proofs.YtjmabkpcahmnpaaGreatDoor
namespace Go.Proofs.YtjmabkpcahmnpaaGreatDoor
open Go.RowKit
end Go.Proofs.YtjmabkpcahmnpaaGreatDoor
namespace Go.Proofs.YtjmabkpcahmnpaaGreatDoor
open Go.RowKit
end Go.Proofs.YtjmabkpcahmnpaaGreatDoor
namespace Go.Proofs.YtjmabkpcahmnpaaGreatDoor
open Go.RowKit
def okB (l:Bs):Bool:=l.all fun c=> !(decide (c<32)||decide (c>126))
theorem contB_okB (l:Bs):contB l=(decide (l.length≤200)&&okB l):=rfl
end Go.Proofs.YtjmabkpcahmnpaaGreatDoor
namespace Go.Proofs.YtjmabkpcahmnpaaGreatDoor
open Go.RowKit
theorem closed_nil (A:Option Addr) (cap:Nat) (w:World):Calls Tryz.prog 234 #[.slice A 0 cap] w fun e w'=>e= .returned (.slice A 0 cap)∧w'=w:=by
 go_enter Tryz.func234,Tryz.ntmps234
 go_wp2
 refine wp_loop_rounds 1 ?_
 rw[rounds_succ]
 go_wp2
 go_ret
 exact⟨rfl,rfl⟩
theorem x_closed:DCalls Tryz.prog 234 [.sl true 5 []] (.sl true 5 []):=by
 refine⟨⟨_,Tryz.func234,by kernel_rfl,by kernel_rfl⟩,fun w vs hi hvs=>?_⟩
 obtain⟨v0,rfl⟩:∃v0,vs=[v0]:=by
  have:=hvs.1
  match vs,this with
  |[a],_=>exact⟨a,rfl⟩
 have r0:=hvs.2 0 _ rfl
 simp only[List.getD_eq_getElem?_getD,List.getElem?_cons_zero,Option.getD_some] at r0
 cases r0
 rename_i hr
 cases hr with
 |nil _ A cap=>
  refine(closed_nil A cap w).mono ?_
  rintro e w' ⟨rfl,rfl⟩
  exact⟨_,rfl,.sl _ _ _ _ (.nil _ _ _),Below.refl _ _⟩
 |sl _ _ b o' cap u hS hx hcap hc hd=>
  refine(closed_nil (some ⟨b,o',none⟩) cap w).mono ?_
  rintro e w' ⟨rfl,rfl⟩
  exact⟨_,rfl,.sl _ _ _ _ (.nil _ _ _),Below.refl _ _⟩
theorem x_vtext (l:Bs) (hl:l.length≤281474976710656):DCalls Tryz.prog 236 [bstr l] (boo (okB l)):=by
 refine sx Tryz.func236 (by kernel_rfl) ?_
 conv=>whnf
 refine⟨[],Nat,fun k=>[(6,int k)],fun _=>[],fun k=>k≤l.length∧okB (l.drop k)=okB l,fun k=>l.length - k,0,⟨Nat.zero_le _,rfl⟩,?_,?_⟩
 ·refine⟨rfl,?_,?_⟩<;>repeat' (first|exact trivial|exact rfl|refine and_rfl ?_|refine and_two ?_ ?_)
 rintro k ⟨hk1,hk⟩
 conv=>whnf
 rintro(_|_) h2
 ·have h2:l.length≤k:=by simp[mk_size] at h2;omega
  rw[List.drop_eq_nil_of_le h2] at hk
  rw[←hk]
  (conv=>whnf)<;>rfl
 have h2:k<l.length:=by simp[mk_size] at h2;omega
 have hw:IntKind.i64.wrap (((k:Nat):Int)+1)=((k+1:Nat):Int):=wrap_succ (by omega)
 rw[drop_cons h2] at hk
 conv=>whnf
 refine⟨by omega,_,mk_at h2,?_⟩
 conv=>whnf
 rintro(_|_) h3
 rotate_left
 ·rw[show okB l=false by rw[←hk];unfold okB;rw[List.all_cons,rangeB];simp at*;omega]
  (conv=>whnf)<;>rfl
 conv=>whnf
 refine⟨by omega,_,mk_at h2,?_⟩
 conv=>whnf
 rintro(_|_) h4
 rotate_left
 ·rw[show okB l=false by rw[←hk];unfold okB;rw[List.all_cons,rangeB];simp at*;omega]
  (conv=>whnf)<;>rfl
 have hr:(!(decide (l[k]<32)||decide (l[k]>126)))=true:=by rw[rangeB];simp at*;omega
 have hk:okB (l.drop (k+1))=okB l:=by rw[←hk];unfold okB;rw[List.all_cons,hr];rfl
 conv=>whnf
 refine⟨k+1,⟨h2,hk⟩,by dsimp only;omega,?_⟩
 refine⟨rfl,?_,?_⟩<;>repeat' (first|exact trivial|exact rfl|refine and_rfl ?_|refine and_val hw ?_|refine and_two ?_ ?_)
def qlen (l:Bs):Int:=IntKind.i64.wrap (IntKind.i64.wrap (IntKind.i64.wrap ((l.length:Nat)+2:Int)+(l.count 34:Nat))+(l.count 92:Nat))
theorem x_vquoted (l:Bs):DCalls Tryz.prog 232 [bstr l] (int (qlen l)):=by
 refine sx Tryz.func232 (by kernel_rfl) ?_
 conv=>whnf
 refine⟨_,x_count (mk l) 34,?_⟩
 conv=>whnf
 refine⟨_,x_count (mk l) 92,?_⟩
 conv=>whnf
 rw[mk_size]
 rfl
theorem qlen_eq (l:Bs) (hl:l.length≤281474976710656):qlen l=((l.length+2+l.count 34+l.count 92:Nat):Int):=by
 have hc:=List.count_le_length (a:=34) (l:=l)
 have hd:=List.count_le_length (a:=92) (l:=l)
 unfold qlen
 rw[IntWalk.i64_in ((l.length:Nat)+2:Int) (by omega),IntWalk.i64_in (_+((l.count 34:Nat):Int)) (by omega),IntWalk.i64_in _ (by omega)]
 omega
def strC (l:Bs):List D:=[.cv (.int .i64 4),.cv (.int .i64 0),.cv (.string (mk l)),.cv (.int .i64 0)]
abbrev strCV (l:Bs):V:= .ag [int 4,int 0,bstr l,int 0]
theorem x_vplain (l:Bs) (hl:l.length≤281474976710656):DCalls Tryz.prog 231 [strCV l] (boo (okB l)):=by
 refine sx Tryz.func231 (by kernel_rfl) ?_
 iterate 3 ((conv=>whnf);refine known false rfl ?_)
 iterate 3 ((conv=>whnf);refine known true rfl ?_)
 conv=>whnf
 refine⟨_,x_vtext l hl,?_⟩
 (conv=>whnf)<;>rfl
theorem x_vsize (l:Bs):DCalls Tryz.prog 233 [strCV l] (int (qlen l)):=by
 refine sx Tryz.func233 (by kernel_rfl) ?_
 iterate 3 ((conv=>whnf);refine known false rfl ?_)
 conv=>whnf
 refine known true rfl ?_
 conv=>whnf
 refine⟨_,x_vquoted l,?_⟩
 (conv=>whnf)<;>rfl
abbrev lookV (l:Bs):V:=if okB l=true then .tu [int 1,.ag [int 1,int (qlen l),boo false,boo (decide (l.length>200))],boo true] else .tu [int 0,.ag [int 0,int 0,boo false,boo false],boo false]
theorem x_vlook (f:Bool) (l:Bs) (hl:l.length≤281474976710656):DCalls Tryz.prog 227 [.sl f 4 [strC l]] (lookV l):=by
 refine sx Tryz.func227 (by kernel_rfl) ?_
 conv=>whnf
 refine⟨[],Unit,fun _=>[(13,int 0),(6,.cv (.slice none 0 0))],fun _=>[(3,some (.box [int 0,int 0,boo false,boo false])),(5,some (.box [int 0,int 0,boo false,boo false]))],fun _=>True,fun _=>0,(),trivial,?_,?_⟩
 ·refine⟨rfl,?_,?_⟩<;>repeat' (first|exact trivial|exact rfl|refine and_rfl ?_|refine and_two ?_ ?_)
 rintro _ _
 conv=>whnf
 refine known true rfl ?_
 conv=>whnf
 refine⟨by omega,_,rfl,?_⟩
 conv=>whnf
 refine⟨_,x_vplain l hl,?_⟩
 conv=>whnf
 rintro(_|_) h1
 rotate_left
 ·have h1:okB l=false:=by simpa using h1
  unfold lookV
  rw[h1,if_neg (by simp)]
  conv=>whnf
  refine⟨none,by kernel_rfl,?_⟩
  (conv=>whnf)<;>rfl
 have h1:okB l=true:=by simpa using h1
 unfold lookV
 rw[if_pos h1]
 repeat((conv=>whnf);first|refine known true rfl ?_|refine known false rfl ?_|refine⟨_,x_vsize l,?_⟩|refine⟨none,by kernel_rfl,?_⟩)
 conv=>whnf
 refine⟨_,x_closed,?_⟩
 conv=>whnf
 refine known true rfl ?_
 conv=>whnf
 refine⟨none,by kernel_rfl,?_⟩
 conv=>whnf
 have hq:=qlen_eq l hl
 have hc:=List.count_le_length (a:=34) (l:=l)
 have hd:=List.count_le_length (a:=92) (l:=l)
 rw[show IntKind.i64.wrap (0+qlen l)=qlen l by rw[Int.zero_add,IntWalk.i64_in _ (by omega)],mk_size]
 have e:decide (((l.length:Nat):Int)>200)=decide (l.length>200):=by rw[Bool.eq_iff_iff];simp;omega
 rw[e]
 rfl
def strE (l:Bs):Int:=if okB l then if l.length≤200 then 0 else 3 else 1
theorem strE0 (l:Bs):(strE l=0)↔contB l=true:=by
 rw[contB_okB];unfold strE
 cases okB l<;>simp
theorem x_vcheck (l:Bs) (hl:l.length≤281474976710656):DCalls Tryz.prog 222 [.sl true 4 [strC l]] (int (strE l)):=by
 have hL:=x_vlook true l hl
 have hq:=qlen_eq l hl
 have hc:=List.count_le_length (a:=34) (l:=l)
 have hd:=List.count_le_length (a:=92) (l:=l)
 unfold lookV at hL
 refine sx Tryz.func222 (by kernel_rfl) ?_
 cases h:okB l with
 |false=>
  rw[h,if_neg (by simp)] at hL
  conv=>whnf
  refine⟨_,hL,?_⟩
  conv=>whnf
  refine known true rfl ?_
  conv=>whnf
  rw[show strE l=1 by unfold strE;rw[h];rfl]
 |true=>
  rw[h,if_pos rfl] at hL
  conv=>whnf
  refine⟨_,hL,?_⟩
  conv=>whnf
  refine known false rfl ?_
  conv=>whnf
  refine known false rfl ?_
  conv=>whnf
  refine known false rfl ?_
  by_cases h2:l.length≤200
  ·rw[show strE l=0 by unfold strE;rw[h,if_pos rfl,if_pos h2]]
   conv=>whnf
   refine known false (by simp;omega) ?_
   conv=>whnf
   refine known false rfl ?_
   conv=>whnf
   refine known false rfl ?_
   conv=>whnf
   refine known false (by simp;omega) ?_
   (conv=>whnf)<;>rfl
  ·rw[show strE l=3 by unfold strE;rw[h,if_pos rfl,if_neg h2]]
   conv=>whnf
   refine known true (by simp;omega) ?_
   (conv=>whnf)<;>rfl
abbrev strEV (l:Bs):V:=if strE l=0 then .tu [.un,int 0] else .tu [.sl true 4 [],int (strE l)]
theorem x_vchecked (l:Bs) (hl:l.length≤281474976710656):DCalls Tryz.prog 213 [.sl true 4 [strC l]] (strEV l):=by
 refine sx Tryz.func213 (by kernel_rfl) ?_
 conv=>whnf
 refine⟨_,x_vcheck l hl,?_⟩
 conv=>whnf
 rintro(_|_) h
 ·have h:strE l=0:=by simpa using h
  unfold strEV
  rw[if_pos h]
  conv=>whnf
 ·have h:strE l≠0:=by simpa using h
  unfold strEV
  rw[if_neg h]
  (conv=>whnf)<;>rfl
theorem x_vstr (l:Bs) (hl:l.length≤281474976710656):DCalls Tryz.prog 202 [bstr l] (strEV l):=by
 have hL:=x_vchecked l hl
 refine sx Tryz.func202 (by kernel_rfl) ?_
 unfold strEV at*
 by_cases h:strE l=0
 ·rw[if_pos h] at*
  conv=>whnf
  refine⟨_,hL,?_⟩
  (conv=>whnf)<;>rfl
 ·rw[if_neg h] at*
  conv=>whnf
  refine⟨_,hL,?_⟩
  (conv=>whnf)<;>rfl
theorem x_stext (l:Bs) (hl:l.length≤281474976710656):DCalls Tryz.prog 208 [bstr l] (boo (contB l)):=by
 have hL:=x_vstr l hl
 refine sx Tryz.func208 (by kernel_rfl) ?_
 unfold strEV at hL
 by_cases h:strE l=0
 ·rw[if_pos h] at hL
  conv=>whnf
  refine⟨_,hL,?_⟩
  rw[(strE0 l).mp h]
  (conv=>whnf)<;>rfl
 ·rw[if_neg h] at hL
  conv=>whnf
  refine⟨_,hL,?_⟩
  conv=>whnf
  rw[show(strE l==0)=contB l by rw[Bool.eq_iff_iff,←strE0];simp]
end Go.Proofs.YtjmabkpcahmnpaaGreatDoor
namespace Go.Proofs.YtjmabkpcahmnpaaGreatDoor
open Go.RowKit
theorem whole_len {l:Bs} (h:l.length<1∨24<l.length):wholeB l=false:=by
 unfold wholeB
 rcases h with h|h
 ·have:l=[]:=List.eq_nil_of_length_eq_zero (by omega)
  subst this;rfl
 ·rw[show decide (l.length≤24)=false by simp;omega];simp
theorem whole_run {l:Bs} (h:1≤l.length) (h2:l.length≤24):wholeB l=decide (runL l=l.length):=by
 unfold wholeB
 cases l with
 |nil=>simp at h
 |cons c r=>simp only[List.isEmpty_cons,Bool.not_false,Bool.true_and];rw[decide_eq_true h2,Bool.and_true]
theorem x_srun (l:Bs) (hl:l.length≤281474976710656):DCalls Tryz.prog 197 [bstr l] (boo (wholeB l)):=by
 refine sx Tryz.func197 (by kernel_rfl) ?_
 conv=>whnf
 rintro(_|_) h1
 rotate_left
 ·have h1:l.length<1:=by simp[mk_size] at h1;omega
  rw[whole_len (.inl h1)]
  (conv=>whnf)<;>rfl
 have h1:1≤l.length:=by simp[mk_size] at h1;omega
 conv=>whnf
 rintro(_|_) h2
 rotate_left
 ·have h2:24<l.length:=by simp[mk_size] at h2;omega
  rw[whole_len (.inr h2)]
  (conv=>whnf)<;>rfl
 have h2:l.length≤24:=by simp[mk_size] at h2;omega
 rw[whole_run h1 h2]
 conv=>whnf
 refine⟨[],Nat,fun k=>[(15,int k)],fun _=>[],fun k=>k≤l.length∧k+(if k=0 then runL l else runT (l.drop k))=runL l,fun k=>l.length - k,0,⟨Nat.zero_le _,by simp⟩,?_,?_⟩
 ·refine⟨rfl,?_,?_⟩<;>repeat' (first|exact trivial|exact rfl|refine and_rfl ?_|refine and_two ?_ ?_)
 rintro k ⟨hk1,hk⟩
 conv=>whnf
 rintro(_|_) h3
 ·have h3:l.length≤k:=by simp[mk_size] at h3;omega
  rw[if_neg (by omega),List.drop_eq_nil_of_le h3] at hk
  rw[show decide (runL l=l.length)=true by simp[runT] at hk⊢;omega]
  (conv=>whnf)<;>rfl
 have h3:k<l.length:=by simp[mk_size] at h3;omega
 have hw:IntKind.i64.wrap (((k:Nat):Int)+1)=((k+1:Nat):Int):=wrap_succ (by omega)
 have next:(if k=0 then runL l else runT (l.drop k))=runT (l.drop (k+1))+1→(k+1)+(if k+1=0 then runL l else runT (l.drop (k+1)))=runL l:=by
  intro h;rw[if_neg (by omega)];omega
 have hd0:k=0→runL l=if isHd l[k] then runT (l.drop (k+1))+1 else 0:=by
  intro e;subst e
  cases l with
  |nil=>simp at h3
  |cons c l=>rfl
 have hdk:runT (l.drop k)=if isHd l[k]||isDg l[k] then runT (l.drop (k+1))+1 else 0:=by rw[drop_cons h3];rfl
 rw[isHd_int] at hd0 hdk
 rw[isDg_int] at hdk
 conv=>whnf
 refine⟨by omega,_,mk_at h3,?_⟩
 have go:((((97:Int)≤(l[k].toNat:Int)∧(l[k].toNat:Int)≤122)∨(l[k].toNat:Int)=95)∨(0<k∧(48:Int)≤(l[k].toNat:Int)∧(l[k].toNat:Int)≤57))→k+1≤l.length∧k+1+(if k+1=0 then runL l else runT (l.drop (k+1)))=runL l:=by
  intro h
  refine⟨h3,next ?_⟩
  split
  ·rw[hd0 (by assumption),if_pos (by simp;omega)]
  ·rw[hdk,if_pos (by simp;omega)]
 have no:¬((((97:Int)≤(l[k].toNat:Int)∧(l[k].toNat:Int)≤122)∨(l[k].toNat:Int)=95)∨(0<k∧(48:Int)≤(l[k].toNat:Int)∧(l[k].toNat:Int)≤57))→false=decide (runL l=l.length):=by
  intro h
  symm
  rw[decide_eq_false_iff_not]
  split at hk
  ·have:=hd0 (by assumption);rw[if_neg (by simp;omega)] at this;omega
  ·rw[hdk,if_neg (by simp;omega)] at hk;omega
 clear hk hd0 hdk next
 repeat' ((conv=>whnf);rintro(_|_) _)
 all_goals simp only[decide_eq_true_eq,decide_eq_false_iff_not,bne_iff_ne,bne_eq_false_iff_eq,beq_iff_eq,beq_eq_false_iff_ne,ne_eq] at*
 all_goals first
  |((conv=>whnf);exact fin_boo (no (by omega)))
  | ((conv=>whnf);refine⟨k+1,go (by omega),by(try dsimp only);omega,?_⟩
     refine⟨rfl,?_,?_⟩<;>repeat' (first|exact trivial|exact rfl|refine and_rfl ?_|refine and_val hw ?_|refine and_two ?_ ?_))
theorem x_sname (l:Bs) (hl:l.length≤281474976710656):DCalls Tryz.prog 170 [bstr l] (boo (nameB l)):=by
 refine sx Tryz.func170 (by kernel_rfl) ?_
 conv=>whnf
 refine⟨_,x_srun l hl,?_⟩
 unfold nameB
 cases h:wholeB l with
 |false=>
  conv=>whnf
  refine known false rfl ?_
  (conv=>whnf)<;>rfl
 |true=>
  conv=>whnf
  refine known true rfl ?_
  conv=>whnf
  refine⟨_,x_keywordL l,?_⟩
  (conv=>whnf)<;>rfl
theorem litE (a:Bs) (d:Array UInt8):((mk a).toList==(⟨d⟩:ByteArray).toList)=(a==d.toList):=sEq_mk a d.toList
theorem snE {a b:Bs} (h:a≠b):((mk a).toList==(mk b).toList)=false:=by rw[show((mk a).toList==(mk b).toList)=(a==b) from sEq_mk a b];simpa using h
theorem x_sbinary (l:Bs):DCalls Tryz.prog 221 [bstr l] (int (binL l)):=by
 by_cases h0:l=[111,114]
 ·subst h0
  refine sx Tryz.func221 (by kernel_rfl) ?_
  repeat((conv=>whnf);first|refine known true ((litE _ _).trans rfl) ?_|refine known false ((litE _ _).trans rfl) ?_)
  try((conv=>whnf)<;>rfl)
 by_cases h1:l=[97,110,100]
 ·subst h1
  refine sx Tryz.func221 (by kernel_rfl) ?_
  repeat((conv=>whnf);first|refine known true ((litE _ _).trans rfl) ?_|refine known false ((litE _ _).trans rfl) ?_)
  try((conv=>whnf)<;>rfl)
 by_cases h2:l=[61,61]
 ·subst h2
  refine sx Tryz.func221 (by kernel_rfl) ?_
  repeat((conv=>whnf);first|refine known true ((litE _ _).trans rfl) ?_|refine known false ((litE _ _).trans rfl) ?_)
  try((conv=>whnf)<;>rfl)
 by_cases h3:l=[33,61]
 ·subst h3
  refine sx Tryz.func221 (by kernel_rfl) ?_
  repeat((conv=>whnf);first|refine known true ((litE _ _).trans rfl) ?_|refine known false ((litE _ _).trans rfl) ?_)
  try((conv=>whnf)<;>rfl)
 by_cases h4:l=[60]
 ·subst h4
  refine sx Tryz.func221 (by kernel_rfl) ?_
  repeat((conv=>whnf);first|refine known true ((litE _ _).trans rfl) ?_|refine known false ((litE _ _).trans rfl) ?_)
  try((conv=>whnf)<;>rfl)
 by_cases h5:l=[60,61]
 ·subst h5
  refine sx Tryz.func221 (by kernel_rfl) ?_
  repeat((conv=>whnf);first|refine known true ((litE _ _).trans rfl) ?_|refine known false ((litE _ _).trans rfl) ?_)
  try((conv=>whnf)<;>rfl)
 by_cases h6:l=[62]
 ·subst h6
  refine sx Tryz.func221 (by kernel_rfl) ?_
  repeat((conv=>whnf);first|refine known true ((litE _ _).trans rfl) ?_|refine known false ((litE _ _).trans rfl) ?_)
  try((conv=>whnf)<;>rfl)
 by_cases h7:l=[62,61]
 ·subst h7
  refine sx Tryz.func221 (by kernel_rfl) ?_
  repeat((conv=>whnf);first|refine known true ((litE _ _).trans rfl) ?_|refine known false ((litE _ _).trans rfl) ?_)
  try((conv=>whnf)<;>rfl)
 by_cases h8:l=[43]
 ·subst h8
  refine sx Tryz.func221 (by kernel_rfl) ?_
  repeat((conv=>whnf);first|refine known true ((litE _ _).trans rfl) ?_|refine known false ((litE _ _).trans rfl) ?_)
  try((conv=>whnf)<;>rfl)
 by_cases h9:l=[45]
 ·subst h9
  refine sx Tryz.func221 (by kernel_rfl) ?_
  repeat((conv=>whnf);first|refine known true ((litE _ _).trans rfl) ?_|refine known false ((litE _ _).trans rfl) ?_)
  try((conv=>whnf)<;>rfl)
 by_cases h10:l=[42]
 ·subst h10
  refine sx Tryz.func221 (by kernel_rfl) ?_
  repeat((conv=>whnf);first|refine known true ((litE _ _).trans rfl) ?_|refine known false ((litE _ _).trans rfl) ?_)
  try((conv=>whnf)<;>rfl)
 by_cases h11:l=[47]
 ·subst h11
  refine sx Tryz.func221 (by kernel_rfl) ?_
  repeat((conv=>whnf);first|refine known true ((litE _ _).trans rfl) ?_|refine known false ((litE _ _).trans rfl) ?_)
  try((conv=>whnf)<;>rfl)
 by_cases h12:l=[37]
 ·subst h12
  refine sx Tryz.func221 (by kernel_rfl) ?_
  repeat((conv=>whnf);first|refine known true ((litE _ _).trans rfl) ?_|refine known false ((litE _ _).trans rfl) ?_)
  try((conv=>whnf)<;>rfl)
 rw[show binL l=0 by simp[binL,wOr,wAnd,opCmp,opAdd,opMul,h0,h1,h2,h3,h4,h5,h6,h7,h8,h9,h10,h11,h12]]
 refine sx Tryz.func221 (by kernel_rfl) ?_
 repeat((conv=>whnf);first|refine known false (snE h0) ?_|refine known false (snE h1) ?_|refine known false (snE h2) ?_|refine known false (snE h3) ?_|refine known false (snE h4) ?_|refine known false (snE h5) ?_|refine known false (snE h6) ?_|refine known false (snE h7) ?_|refine known false (snE h8) ?_|refine known false (snE h9) ?_|refine known false (snE h10) ?_|refine known false (snE h11) ?_|refine known false (snE h12) ?_)
 try((conv=>whnf)<;>rfl)
theorem x_soperator (l:Bs):DCalls Tryz.prog 210 [bstr l] (boo (decide (0<binL l))):=by
 refine sx Tryz.func210 (by kernel_rfl) ?_
 conv=>whnf
 refine⟨_,x_sbinary l,?_⟩
 (conv=>whnf)<;>rfl
theorem x_sstatement (n:Int):DCalls Tryz.prog 211 [int n] (boo (stmtK n)):=by
 refine sx Tryz.func211 (by kernel_rfl) ?_
 unfold stmtK
 conv=>whnf
 rintro(_|_) h
 ·(conv=>whnf);exact fin_boo (by simp at*;omega)
 ·(conv=>whnf);exact fin_boo (by simp at*;omega)
theorem x_sexpression (n:Int):DCalls Tryz.prog 212 [int n] (boo (exprK n)):=by
 refine sx Tryz.func212 (by kernel_rfl) ?_
 unfold exprK
 conv=>whnf
 rintro(_|_) h
 ·(conv=>whnf);exact fin_boo (by simp at*;omega)
 ·(conv=>whnf);exact fin_boo (by simp at*;omega)
end Go.Proofs.YtjmabkpcahmnpaaGreatDoor
