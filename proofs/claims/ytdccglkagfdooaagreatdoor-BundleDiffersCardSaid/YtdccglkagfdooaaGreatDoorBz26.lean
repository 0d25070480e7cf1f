/- Texts joined by pack.py: XLx12 XLx13 XLx14 XLx15 XLx16 XLx17 XBdE XBdF XSxCf XSxCl XSxCg -/
import Derived.Test.YtdccglkagfdooaaGreatDoorBz25
import Derived.Test.YtdccglkagfdooaaGreatDoorBz24
import Derived.Test.YtdccglkagfdooaaGreatDoorBz16
import Derived.Test.YtdccglkagfdooaaGreatDoorBz19
set_option maxHeartbeats 8000000
set_option maxRecDepth 100000
namespace Go.Proofs.YtdccglkagfdooaaGreatDoor
open Go.RowKit
theorem cls_qt (c:UInt8):(cls c==4)=(c==34):=by
 have:∀n:Fin 256,(cls (UInt8.ofNat n.val)==4)=(UInt8.ofNat n.val==34):=by decide+kernel
 have:=this ⟨c.toNat,c.toNat_lt⟩
 simpa using this
theorem cls_at (c:UInt8):(cls c==5)=(c==64):=by
 have:∀n:Fin 256,(cls (UInt8.ofNat n.val)==5)=(UInt8.ofNat n.val==64):=by decide+kernel
 have:=this ⟨c.toNat,c.toNat_lt⟩
 simpa using this
abbrev tkV (p:Tok×Nat×Int):V:= .tu [p.1.V,int p.2.1,int p.2.2]
theorem tok1_hd {c:UInt8} {r:Bs} (h:isHd c=true):tok1 (c::r)=if runL (c::r)>24 then(noTok,0,3) else if kwL ((c::r).take (runL (c::r))) then(⟨2,(c::r).take (runL (c::r)),0,0⟩,runL (c::r),0) else(⟨1,(c::r).take (runL (c::r)),0,0⟩,runL (c::r),0):=by
 unfold tok1;simp only[h,if_true]
theorem tok1_dg {c:UInt8} {r:Bs} (h1:isHd c=false) (h:isDg c=true):tok1 (c::r)=if(pnum ((c::r).take (digL (c::r)))).2=0 then(⟨3,[],(pnum ((c::r).take (digL (c::r)))).1,0⟩,digL (c::r),0) else(noTok,0,(pnum ((c::r).take (digL (c::r)))).2):=by
 unfold tok1;simp only[h1,h,if_true,Bool.false_eq_true,if_false]
theorem tok1_qt {r:Bs}:tok1 (34::r)=if(txt r 1 []).2.2=0 then(⟨4,(txt r 1 []).1,0,0⟩,(txt r 1 []).2.1,0) else(noTok,(txt r 1 []).2.1,(txt r 1 []).2.2):=by
 unfold tok1;rfl
theorem tok1_at {r:Bs}:tok1 (64::r)=if runL r=0 then(noTok,0,1) else if runL r>24 then(noTok,0,3) else(⟨6,r.take (runL r),0,0⟩,runL r+1,0):=by
 unfold tok1;rfl
theorem tok1_sy {c:UInt8} {r:Bs} (h1:isHd c=false) (h2:isDg c=false) (h3:(c==34)=false) (h4:(c==64)=false):tok1 (c::r)=if 2≤(c::r).length∧symB ((c::r).take 2) then(⟨5,(c::r).take 2,0,0⟩,2,0)
  else if symB ((c::r).take 1) then(⟨5,(c::r).take 1,0,0⟩,1,0) else(noTok,0,1):=by
 unfold tok1;simp only[h1,h2,h3,h4,Bool.false_eq_true,if_false]
theorem runT_le:∀l:Bs,runT l≤l.length
 |[]=>Nat.le_refl _
 |c::l=>by have:=runT_le l;simp only[runT,List.length_cons];split<;>omega
theorem runL_le:∀l:Bs,runL l≤l.length
 |[]=>Nat.le_refl _
 |c::l=>by have:=runT_le l;simp only[runL,List.length_cons];split<;>omega
theorem mk_toI (l:Bs) (k:Nat):(mk l).extract (0:Int).toNat ((k:Nat):Int).toNat=mk (l.take k):=by
 rw[Int.toNat_natCast];exact mk_to l k
theorem x_keywordL (l:Bs):DCalls Tryz.prog 153 [bstr l] (boo (kwL l)):=x_keyword (mk l)
theorem x_token (c:UInt8) (r:Bs) (hl:(c::r).length≤281474976710656):DCalls Tryz.prog 116 [bstr (c::r)] (tkV (tok1 (c::r))):=by
 refine sx Tryz.func116 (by kernel_rfl) ?_
 conv=>whnf
 refine⟨by omega,_,(show(mk (c::r))[0]?=some c by rw[mk_get];rfl),?_⟩
 conv=>whnf
 refine⟨_,x_ofw c,?_⟩
 conv=>whnf
 rw[cls_hd]
 rintro(_|_) h1
 rotate_left
 ·have hrl:=runL_le (c::r)
  rw[tok1_hd h1]
  generalize hL:c::r=l at*
  conv=>whnf
  refine⟨_,x_run l (by omega),?_⟩
  conv=>whnf
  rintro(_|_) h2
  rotate_left
  ·simp at h2
   rw[if_pos (by omega)]
   (conv=>whnf)<;>rfl
  simp at h2
  rw[if_neg (by omega)]
  conv=>whnf
  refine⟨by omega,by omega,by rw[mk_size];omega,?_⟩
  rw[mk_toI]
  conv=>whnf
  refine⟨_,x_keywordL _,?_⟩
  conv=>whnf
  rintro(_|_) h3
  ·rw[if_neg (by rw[h3];simp)]
   conv=>whnf
   refine⟨by omega,by omega,by rw[mk_size];omega,?_⟩
   rw[mk_toI]
   (conv=>whnf)<;>rfl
  ·rw[if_pos h3]
   conv=>whnf
   refine⟨by omega,by omega,by rw[mk_size];omega,?_⟩
   rw[mk_toI]
   (conv=>whnf)<;>rfl
 conv=>whnf
 rw[cls_dg]
 rintro(_|_) h2
 rotate_left
 ·have hdl:=digL_le (c::r)
  have hdig:=digs_take (l:=r) h2
  rw[tok1_dg h1 h2]
  generalize hL:c::r=l at*
  conv=>whnf
  refine⟨_,x_digits l (by omega),?_⟩
  conv=>whnf
  refine⟨by omega,by omega,by rw[mk_size];omega,?_⟩
  rw[mk_toI]
  conv=>whnf
  refine⟨_,x_parse _ hdig (by rw[List.length_take];omega),?_⟩
  conv=>whnf
  rintro(_|_) h3
  ·simp at h3
   rw[if_pos h3]
   (conv=>whnf)<;>rfl
  ·simp at h3
   rw[if_neg h3]
   (conv=>whnf)<;>rfl
 conv=>whnf
 rw[cls_qt]
 rintro(_|_) h3
 rotate_left
 ·have h3':c=34:=by simpa using h3
  subst h3'
  rw[tok1_qt]
  conv=>whnf
  refine⟨_,x_text (34::r) (by simp) (by omega),?_⟩
  rw[show txt (List.drop 1 (34::r)) 1 []=txt r 1 [] from rfl]
  conv=>whnf
  rintro(_|_) h4
  ·simp at h4
   rw[if_pos h4]
   (conv=>whnf)<;>rfl
  ·simp at h4
   rw[if_neg h4]
   (conv=>whnf)<;>rfl
 conv=>whnf
 rw[cls_at]
 rintro(_|_) h4
 rotate_left
 ·have h4':c=64:=by simpa using h4
  subst h4'
  rw[tok1_at]
  have hrl:=runL_le r
  have hl':(64::r).length=r.length+1:=rfl
  conv=>whnf
  refine⟨by omega,by rw[mk_size];omega,by omega,?_⟩
  rw[show(mk (64::r)).extract (1:Int).toNat (((mk (64::r)).size:Nat):Int).toNat=mk r from mk_fromI (64::r) 1]
  conv=>whnf
  refine⟨_,x_run r (by omega),?_⟩
  conv=>whnf
  rintro(_|_) h5
  rotate_left
  ·simp at h5
   rw[if_pos (by omega)]
   (conv=>whnf)<;>rfl
  simp at h5
  rw[if_neg (by omega)]
  conv=>whnf
  rintro(_|_) h6
  rotate_left
  ·simp at h6
   rw[if_pos (by omega)]
   (conv=>whnf)<;>rfl
  simp at h6
  rw[if_neg (by omega)]
  have hw:IntKind.i64.wrap ((runL r:Int)+1)=((runL r+1:Nat):Int):=wrap_succ (by omega)
  conv=>whnf
  rw[hw]
  refine⟨by omega,by omega,by rw[mk_size];omega,?_⟩
  have e:(mk (64::r)).extract (1:Int).toNat ((runL r+1:Nat):Int).toNat=mk (r.take (runL r)):=by
   rw[Int.toNat_natCast,mk_ext];rfl
  rw[e]
  conv=>whnf
  rw[hw]
 rw[tok1_sy h1 h2 h3 h4]
 have hpos:1≤(c::r).length:=by simp
 generalize hL:c::r=l at*
 obtain⟨n0,e0,a1,a2,a3⟩:∃n0:Nat,(if(((mk l).size:Nat):Int)<2 then(((mk l).size:Nat):Int) else 2)=((n0:Nat):Int)∧n0≤l.length∧(l.length<2→n0=1)∧(2≤l.length→n0=2):=by
  rw[mk_size]
  by_cases h:l.length<2
  ·exact⟨l.length,by rw[if_pos (by omega)],by omega,by omega,by omega⟩
  ·exact⟨2,by rw[if_neg (by omega)];rfl,by omega,by omega,by omega⟩
 conv=>whnf
 rw[e0]
 refine⟨[],Nat,fun n=>[(14,int n)],fun _=>[],fun n=>n≤l.length∧n≤2∧(if 2≤l.length∧symB (l.take 2) then((⟨5,l.take 2,0,0⟩:Tok),2,(0:Int)) else if symB (l.take 1) then(⟨5,l.take 1,0,0⟩,1,0) else(noTok,0,1))=
  (if 2≤n∧symB (l.take 2) then((⟨5,l.take 2,0,0⟩:Tok),2,(0:Int)) else if 1≤n∧symB (l.take 1) then(⟨5,l.take 1,0,0⟩,1,0) else(noTok,0,1)),fun n=>n,n0,⟨a1,by omega,by
   by_cases h:l.length<2
   ·rw[a2 h];simp[show¬2≤l.length by omega]
   ·rw[a3 (by omega)];simp[show 2≤l.length by omega]⟩,?_,?_⟩
 ·refine⟨rfl,?_,?_⟩<;>repeat' (first|exact trivial|exact rfl|refine and_rfl ?_|refine and_two ?_ ?_)
 rintro n ⟨b1,b2,hI⟩
 conv=>whnf
 rintro(_|_) h5
 ·simp at h5
  subst h5
  rw[hI]
  (conv=>whnf)<;>rfl
 simp at h5
 conv=>whnf
 refine⟨by omega,by omega,by rw[mk_size];omega,?_⟩
 rw[mk_toI]
 conv=>whnf
 refine⟨_,x_symbol (l.take n) (by rw[List.length_take];omega),?_⟩
 conv=>whnf
 rintro(_|_) h6
 ·conv=>whnf
  refine⟨n - 1,⟨by omega,by omega,by
   rw[hI]
   rcases(by omega:n=1∨n=2) with rfl|rfl
   ·rw[h6];simp
   ·rw[h6];simp⟩,by dsimp only;omega,?_⟩
  have hw:IntKind.i64.wrap ((n:Int) - 1)=((n - 1:Nat):Int):=by rw[IntWalk.i64_in _ (by omega)];omega
  refine⟨rfl,?_,?_⟩<;>repeat' (first|exact trivial|exact rfl|refine and_rfl ?_|refine and_val hw ?_|refine and_two ?_ ?_)
 ·rw[hI]
  conv=>whnf
  refine⟨by omega,by omega,by rw[mk_size];omega,?_⟩
  rw[mk_toI]
  rcases(by omega:n=1∨n=2) with rfl|rfl
  ·rw[if_neg (by omega),if_pos ⟨by omega,h6⟩]
   (conv=>whnf)<;>rfl
  ·rw[if_pos ⟨by omega,h6⟩]
   (conv=>whnf)<;>rfl
end Go.Proofs.YtdccglkagfdooaaGreatDoor
namespace Go.Proofs.YtdccglkagfdooaaGreatDoor
open Go.RowKit
end Go.Proofs.YtdccglkagfdooaaGreatDoor
namespace Go.Proofs.YtdccglkagfdooaaGreatDoor
open Go.RowKit
theorem txt_len:∀(l:Bs) (i:Nat) (out:Bs),(txt l i out).2.2=0→i+1≤(txt l i out).2.1∧(txt l i out).2.1≤i+l.length
 |[],i,out,h=>by simp[txt] at h
 |c::l,i,out,h=>by
  by_cases h1:(decide (c<32)||decide (c>126))=true
  ·rw[txt_bad h1] at h;simp at h
  have h1:(decide (c<32)||decide (c>126))=false:=by simpa using h1
  by_cases h2:c=34
  ·subst h2;rw[txt_end];simp
  by_cases h3:c=92
  ·subst h3
   cases l with
   |nil=>rw[txt_bs0] at h;simp at h
   |cons d l=>
    by_cases h4:(d==34||d==92)=true
    ·rw[txt_bs2 h4] at h⊢
     split at h
     ·simp at h
     ·rename_i h5
      rw[if_neg h5]
      have:=txt_len l (i+2) (out++[d]) h
      simp only[List.length_cons];omega
    ·rw[txt_bs1 (by simpa using h4)] at h;simp at h
  rw[txt_go h1 h2 h3] at h⊢
  split at h
  ·simp at h
  ·rename_i h5
   rw[if_neg h5]
   have:=txt_len l (i+1) (out++[c]) h
   simp only[List.length_cons];omega
theorem runL_pos {c:UInt8} {r:Bs} (h:isHd c=true):1≤runL (c::r):=by simp[runL,h]
theorem digL_pos {c:UInt8} {r:Bs} (h:isDg c=true):1≤digL (c::r):=by simp[digL,h]
theorem tok1_len (c:UInt8) (r:Bs) (h:(tok1 (c::r)).2.2=0):1≤(tok1 (c::r)).2.1∧(tok1 (c::r)).2.1≤(c::r).length:=by
 cases h1:isHd c with
 |true=>
  have a:=runL_pos (r:=r) h1
  have b:=runL_le (c::r)
  rw[tok1_hd h1] at h⊢
  split at h
  ·simp at h
  ·rename_i h2;rw[if_neg h2];split<;>exact⟨a,b⟩
 |false=>
 cases h2:isDg c with
 |true=>
  have a:=digL_pos (r:=r) h2
  have b:=digL_le (c::r)
  rw[tok1_dg h1 h2] at h⊢
  split at h
  ·rename_i h3;rw[if_pos h3];exact⟨a,b⟩
  ·rename_i h3;exact absurd h h3
 |false=>
 cases h3:(c==34) with
 |true=>
  have:c=34:=by simpa using h3
  subst this
  rw[tok1_qt] at h⊢
  split at h
  ·rename_i h4;rw[if_pos h4];have:=txt_len r 1 [] h4;simp only[List.length_cons];omega
  ·rename_i h4;exact absurd h h4
 |false=>
 cases h4:(c==64) with
 |true=>
  have:c=64:=by simpa using h4
  subst this
  have b:=runL_le r
  rw[tok1_at] at h⊢
  split at h
  ·simp at h
  ·rename_i h5;rw[if_neg h5]
   split at h
   ·simp at h
   ·rename_i h6;rw[if_neg h6];simp only[List.length_cons];omega
 |false=>
  rw[tok1_sy h1 h2 h3 h4] at h⊢
  split at h
  ·rename_i h5;rw[if_pos h5];exact⟨by simp,h5.1⟩
  ·rename_i h5;rw[if_neg h5]
   split at h
   ·rename_i h6;rw[if_pos h6];simp
   ·simp at h
theorem toksF_succ (f:Nat) (c:UInt8) (r:Bs) (at_:Nat) (out:List Tok):toksF (f+1) (c::r) at_ out=if out.length=1000 then([],at_,3) else if(tok1 (c::r)).2.2=0 then
  toksF f ((c::r).drop ((tok1 (c::r)).2.1+skip ((c::r).drop (tok1 (c::r)).2.1))) (at_+(tok1 (c::r)).2.1+skip ((c::r).drop (tok1 (c::r)).2.1)) (out++[{(tok1 (c::r)).1 with at_:=at_}])
  else([],at_+(tok1 (c::r)).2.1,(tok1 (c::r)).2.2):=by
 conv=>lhs;unfold toksF
 rw[if_neg (by simp)]
theorem toksF_fuel:∀(f g:Nat) (l:Bs) (at_:Nat) (out:List Tok),l.length≤f→l.length≤g→toksF f l at_ out=toksF g l at_ out
 |0,0,l,at_,out,_,_=>rfl
 |0,g+1,l,at_,out,hf,_=>by
  have:l=[]:=List.eq_nil_of_length_eq_zero (by omega)
  subst this;simp[toksF]
 |f+1,0,l,at_,out,_,hg=>by
  have:l=[]:=List.eq_nil_of_length_eq_zero (by omega)
  subst this;simp[toksF]
 |f+1,g+1,l,at_,out,hf,hg=>by
  cases l with
  |nil=>simp[toksF]
  |cons c r=>
   rw[toksF_succ,toksF_succ]
   split
   ·rfl
   ·split
    ·rename_i h
     have:=tok1_len c r h
     simp only[List.length_cons] at hf hg this
     exact toksF_fuel f g _ _ _ (by rw[List.length_drop,List.length_cons];omega) (by rw[List.length_drop,List.length_cons];omega)
    ·rfl
def TKs (l:Bs) (at_:Nat) (out:List Tok):List Tok×Nat×Int:=toksF l.length l at_ out
theorem TKs_nil (at_:Nat) (out:List Tok):TKs [] at_ out=(out,0,0):=rfl
theorem TKs_full {c:UInt8} {r:Bs} {at_:Nat} {out:List Tok} (h:out.length=1000):TKs (c::r) at_ out=([],at_,3):=by
 unfold TKs;rw[List.length_cons,toksF_succ,if_pos h]
theorem TKs_err {c:UInt8} {r:Bs} {at_:Nat} {out:List Tok} (h:out.length≠1000) (he:(tok1 (c::r)).2.2≠0):TKs (c::r) at_ out=([],at_+(tok1 (c::r)).2.1,(tok1 (c::r)).2.2):=by
 unfold TKs;rw[List.length_cons,toksF_succ,if_neg h,if_neg he]
theorem TKs_ok {c:UInt8} {r:Bs} {at_:Nat} {out:List Tok} (h:out.length≠1000) (he:(tok1 (c::r)).2.2=0):TKs (c::r) at_ out=
  TKs ((c::r).drop ((tok1 (c::r)).2.1+skip ((c::r).drop (tok1 (c::r)).2.1))) (at_+(tok1 (c::r)).2.1+skip ((c::r).drop (tok1 (c::r)).2.1)) (out++[{(tok1 (c::r)).1 with at_:=at_}]):=by
 have hl:=tok1_len c r he
 simp only[List.length_cons] at hl
 unfold TKs
 rw[List.length_cons,toksF_succ,if_neg h,if_pos he]
 exact toksF_fuel _ _ _ _ _ (by rw[List.length_drop,List.length_cons];omega) (Nat.le_refl _)
theorem skp_le:∀(b:Bool) (l:Bs),skp b l≤l.length
 |_,[]=>Nat.zero_le _
 |false,c::l=>by
  have h1:=skp_le false l
  have h2:=skp_le true l
  simp only[skp,List.length_cons]
  split
  ·omega
  ·split<;>omega
 |true,c::l=>by
  have h1:=skp_le false l
  have h2:=skp_le true l
  simp only[skp,List.length_cons]
  split<;>omega
theorem tokens_TKs (l:Bs) (h:l.length≤4000):tokens l=TKs (l.drop (skip l)) (skip l) []:=by
 unfold tokens TKs
 rw[if_neg (by omega)]
 exact toksF_fuel _ _ _ _ _ (by rw[List.length_drop];omega) (Nat.le_refl _)
end Go.Proofs.YtdccglkagfdooaaGreatDoor
namespace Go.Proofs.YtdccglkagfdooaaGreatDoor
open Go.RowKit
abbrev tksV (p:List Tok×Nat×Int):V:= .tu [toks p.1,int p.2.1,int p.2.2]
theorem txt_le:∀(l:Bs) (i:Nat) (out:Bs),(txt l i out).2.1≤i+l.length
 |[],i,out=>by simp[txt]
 |c::l,i,out=>by
  by_cases h1:(decide (c<32)||decide (c>126))=true
  ·rw[txt_bad h1];simp
  have h1:(decide (c<32)||decide (c>126))=false:=by simpa using h1
  by_cases h2:c=34
  ·subst h2;rw[txt_end];simp only[List.length_cons];omega
  by_cases h3:c=92
  ·subst h3
   cases l with
   |nil=>rw[txt_bs0];simp
   |cons d l=>
    by_cases h4:(d==34||d==92)=true
    ·rw[txt_bs2 h4]
     split
     ·simp
     ·have:=txt_le l (i+2) (out++[d])
      simp only[List.length_cons];omega
    ·rw[txt_bs1 (by simpa using h4)];simp
  rw[txt_go h1 h2 h3]
  split
  ·simp
  ·have:=txt_le l (i+1) (out++[c])
   simp only[List.length_cons];omega
theorem tok1_le' (c:UInt8) (r:Bs):(tok1 (c::r)).2.1≤(c::r).length:=by
 by_cases h:(tok1 (c::r)).2.2=0
 ·exact(tok1_len c r h).2
 cases h1:isHd c with
 |true=>
  rw[tok1_hd h1] at h⊢
  split at h<;>rename_i h2
  ·rw[if_pos h2];simp
  ·split at h<;>simp at h
 |false=>
 cases h2:isDg c with
 |true=>
  rw[tok1_dg h1 h2] at h⊢
  split at h<;>rename_i h3
  ·simp at h
  ·rw[if_neg h3];simp
 |false=>
 cases h3:(c==34) with
 |true=>
  have:c=34:=by simpa using h3
  subst this
  rw[tok1_qt] at h⊢
  split at h<;>rename_i h4
  ·simp at h
  ·rw[if_neg h4];have:=txt_le r 1 [];simp only[List.length_cons];omega
 |false=>
 cases h4:(c==64) with
 |true=>
  have:c=64:=by simpa using h4
  subst this
  rw[tok1_at] at h⊢
  split at h<;>rename_i h5
  ·rw[if_pos h5];simp
  ·split at h<;>rename_i h6
   ·rw[if_neg h5,if_pos h6];simp
   ·simp at h
 |false=>
  rw[tok1_sy h1 h2 h3 h4] at h⊢
  split at h<;>rename_i h5
  ·simp at h
  ·split at h<;>rename_i h6
   ·simp at h
   ·rw[if_neg h5,if_neg h6];simp
theorem tok1_le (c:UInt8) (r:Bs) {n:Nat} (h:(c::r).length≤n):(tok1 (c::r)).2.1≤n:=Nat.le_trans (tok1_le' c r) h
theorem x_tokens (l:Bs) (hl:l.length≤281474976710656):DCalls Tryz.prog 85 [bstr l] (tksV (tokens l)):=by
 refine sx Tryz.func85 (by kernel_rfl) ?_
 conv=>whnf
 rintro(_|_) h0
 rotate_left
 ·simp[mk_size] at h0
  rw[show tokens l=([],0,3) by unfold tokens;rw[if_pos (by omega)]]
  (conv=>whnf)<;>rfl
 simp[mk_size] at h0
 have hlen:l.length≤4000:=by omega
 rw[tokens_TKs l hlen]
 conv=>whnf
 refine⟨_,x_skip l (by omega),?_⟩
 have hsk:skip l≤l.length:=skp_le false l
 generalize hR:TKs (l.drop (skip l)) (skip l) []=R
 conv=>whnf
 refine⟨[(5,48,183,4)],Nat×List Tok,fun⟨k,out⟩=>[(6,int k),(5,.ow 48 0),(7,.un)],fun⟨k,out⟩=>[(48,some (.row 0 183 4 true (out.map tokD))),(7,none)],fun⟨k,out⟩=>k≤l.length∧out.length≤1000∧TKs (l.drop k) k out=R,fun x=>l.length - x.1,(skip l,[]),⟨hsk,by simp,hR⟩,?_,?_⟩
 ·refine⟨rfl,?_,?_⟩<;>repeat' (first|exact trivial|exact rfl|refine and_rfl ?_|refine and_two ?_ ?_)
 rintro⟨k,out⟩ ⟨hk1,hk2,hk⟩
 conv=>whnf
 rintro(_|_) h2
 ·simp[mk_size] at h2
  rw[List.drop_eq_nil_of_le h2,TKs_nil] at hk
  rw[←hk]
  (conv=>whnf)<;>rfl
 have h2:k<l.length:=by simp only[mk_size] at h2;simp at h2;omega
 have hd:=drop_cons h2
 conv=>whnf
 rintro(_|_) h3
 rotate_left
 ·simp at h3
  rw[hd,TKs_full (by omega)] at hk
  rw[←hk]
  (conv=>whnf)<;>rfl
 have h3:out.length≠1000:=by simp at h3;omega
 conv=>whnf
 refine⟨by omega,by rw[mk_size];omega,by omega,?_⟩
 rw[mk_fromI,hd]
 have hlc:(l[k]::l.drop (k+1)).length=l.length - k:=by rw[←hd,List.length_drop]
 conv=>whnf
 refine⟨_,x_token l[k] (l.drop (k+1)) (by omega),?_⟩
 have hcr:l.drop k=l[k]::l.drop (k+1):=hd
 generalize l.drop (k+1)=r at*
 have hdrop:∀a b,l.drop (k+a+b)=(l[k]::r).drop (a+b):=fun a b=>by rw[←hcr,List.drop_drop,Nat.add_assoc]
 generalize l[k]=c at*
 rw[hcr] at hk
 conv=>whnf
 rintro(_|_) h4
 rotate_left
 ·have h4:(tok1 (c::r)).2.2≠0:=by simpa using h4
  rw[TKs_err h3 h4] at hk
  rw[←hk]
  have hb:(tok1 (c::r)).2.1≤281474976710656:=tok1_le c r (by omega)
  conv=>whnf
  rw[show IntKind.i64.wrap ((k:Int)+((tok1 (c::r)).2.1:Nat))=((k+(tok1 (c::r)).2.1:Nat):Int) by rw[IntWalk.i64_in _ (by omega)];omega]
  rfl
 have h4:(tok1 (c::r)).2.2=0:=by simpa using h4
 rw[TKs_ok h3 h4] at hk
 have hl4:=tok1_len c r h4
 have hw:IntKind.i64.wrap ((k:Int)+((tok1 (c::r)).2.1:Nat))=((k+(tok1 (c::r)).2.1:Nat):Int):=by rw[IntWalk.i64_in _ (by omega)];omega
 conv=>whnf
 refine⟨by simp;omega,?_⟩
 conv=>whnf
 rw[hw]
 refine⟨by omega,by rw[mk_size];omega,by omega,?_⟩
 rw[mk_fromI,←List.drop_drop,hcr]
 have hsk2:skip ((c::r).drop (tok1 (c::r)).2.1)≤((c::r).drop (tok1 (c::r)).2.1).length:=skp_le false _
 rw[List.length_drop] at hsk2
 conv=>whnf
 refine⟨_,x_skip ((c::r).drop (tok1 (c::r)).2.1) (by rw[List.length_drop];omega),?_⟩
 have hw2:IntKind.i64.wrap (((k+(tok1 (c::r)).2.1:Nat):Int)+((skip ((c::r).drop (tok1 (c::r)).2.1):Nat):Int))=((k+(tok1 (c::r)).2.1+skip ((c::r).drop (tok1 (c::r)).2.1):Nat):Int):=by rw[IntWalk.i64_in _ (by omega)];omega
 conv=>whnf
 refine⟨(k+(tok1 (c::r)).2.1+skip ((c::r).drop (tok1 (c::r)).2.1),out++[{(tok1 (c::r)).1 with at_:=k}]),⟨by omega,by simp;omega,by rw[hdrop];exact hk⟩,by dsimp only;omega,?_⟩
 refine⟨rfl,?_,?_⟩<;>repeat' (first|exact trivial|exact rfl|refine and_rfl ?_|refine and_val hw2 ?_|refine and_two ?_ ?_|(simp[tokD];done))
end Go.Proofs.YtdccglkagfdooaaGreatDoor
namespace Go.Proofs.YtdccglkagfdooaaGreatDoor
open Go.RowKit
end Go.Proofs.YtdccglkagfdooaaGreatDoor
namespace Go.Proofs.YtdccglkagfdooaaGreatDoor
open Go.RowKit
def sp (c:UInt8):Bool:=c==34||c==92
def ex (l:Bs):Nat:=l.count 92+l.count 34
theorem x_count (s:ByteArray) (c:UInt8):DCalls Tryz.prog 54 [str s,bstr [c]] (int (s.data.toList.count c:Nat)):=
 dcalls_val Tryz.func54 (by kernel_rfl) (by kernel_rfl) rfl rfl fun w _=>(Tryz.strings_Count_one s c w).mono fun e w' ⟨h1,h2⟩=>⟨h1,h2▸Below.refl _ _⟩
end Go.Proofs.YtdccglkagfdooaaGreatDoor
namespace Go.Proofs.YtdccglkagfdooaaGreatDoor
open Go.RowKit
abbrev sMain:Bs:=[109,97,105,110]
abbrev iD (op a:Int):List D:=[.cv (.int .i64 op),.cv (.int .i64 a),.cv (.string (mk [])),.sl 1 []]
abbrev iV (op a:Int):V:= .ag [int op,int a,bstr [],.sl true 1 []]
abbrev iN (op a:Int):List D:=[.cv (.int .i64 op),.cv (.int .i64 a),.cv (.string (mk [])),.cv (.slice none 0 0)]
abbrev exI:List (List D):=[iD 5 0,iD 20 0,iN 1 0,iN 20 0]
abbrev exF:List D:=[.cv (.string (mk sMain)),.cv (.int .i64 1),.cv (.int .i64 1),.cv (.int .i64 0),.cv (.int .i64 4)]
abbrev exFV:V:= .ag [bstr sMain,int 1,int 1,int 0,int 4]
abbrev exC:V:= .ag [.sl true 5 [exF],.sl true 4 exI]
def inB (n a b:Int):Bool:=decide (a≤n)&&decide (n≤b)
theorem x_in (n a b:Int):DCalls Tryz.prog 136 [int n,int a,int b] (boo (inB n a b)):=by
 refine sx Tryz.func136 (by kernel_rfl) ?_
 conv=>whnf
 rintro(_|_) h
 ·have h:¬a≤n:=by simp at h;omega
  rw[show inB n a b=false by unfold inB;simp[h]]
  (conv=>whnf)<;>rfl
 ·have h:a≤n:=by simp at h;omega
  rw[show inB n a b=decide (n≤b) by unfold inB;simp[h]]
  (conv=>whnf)<;>rfl
def knownB (n:Int):Bool:=decide (1≤n)&&decide (n≤20)
theorem x_known (n:Int):DCalls Tryz.prog 137 [int n] (boo (knownB n)):=by
 refine sx Tryz.func137 (by kernel_rfl) ?_
 conv=>whnf
 rintro(_|_) h
 ·have h:¬1≤n:=by simp at h;omega
  rw[show knownB n=false by unfold knownB;simp[h]]
  (conv=>whnf)<;>rfl
 ·have h:1≤n:=by simp at h;omega
  rw[show knownB n=decide (n≤20) by unfold knownB;simp[h]]
  (conv=>whnf)<;>rfl
theorem x_operands (op a:Int) (h:(op=5∧a=0)∨(op=20∧a=0)∨(op=1∧a=0)):DCalls Tryz.prog 138 [exC,exFV,iV op a] (boo true):=by
 rcases h with⟨rfl,rfl⟩|⟨rfl,rfl⟩|⟨rfl,rfl⟩
 all_goals
  refine sx Tryz.func138 (by kernel_rfl) ?_
  repeat((conv=>whnf);first|refine known true rfl ?_|refine known false rfl ?_|refine⟨_,x_in _ _ _,?_⟩)
  (conv=>whnf)<;>rfl
theorem eqT (s:ByteArray):(!(s.toList==s.toList))=false:=by simp
theorem x_formed (op a:Int) (h:(op=5∧a=0)∨(op=20∧a=0)∨(op=1∧a=0)):DCalls Tryz.prog 98 [exC,exFV,iV op a] (boo true):=by
 have ho:=x_operands op a h
 rcases h with⟨rfl,rfl⟩|⟨rfl,rfl⟩|⟨rfl,rfl⟩
 all_goals
  refine sx Tryz.func98 (by kernel_rfl) ?_
  conv=>whnf
  refine⟨_,x_known _,?_⟩
  repeat((conv=>whnf);first|refine known true rfl ?_|refine known false rfl ?_|refine known false (eqT _) ?_|refine⟨by decide,by decide,?_⟩|refine⟨_,ho,?_⟩)
  (conv=>whnf)<;>rfl
theorem x_pops (op a n:Int) (h:(op=5∧a=0∧n=0)∨(op=20∧a=0∧n=1)∨(op=1∧a=0∧n=0)):DCalls Tryz.prog 139 [exC,iV op a] (int n):=by
 rcases h with⟨rfl,rfl,rfl⟩|⟨rfl,rfl,rfl⟩|⟨rfl,rfl,rfl⟩
 all_goals
  refine sx Tryz.func139 (by kernel_rfl) ?_
  repeat((conv=>whnf);first|refine known true rfl ?_|refine known false rfl ?_|refine⟨by decide,by decide,?_⟩)
  (conv=>whnf)<;>rfl
theorem x_succ5 (i:Nat) (hi:i<100):DCalls Tryz.prog 140 [iV 5 0,int i] (.sl true 1 [[.cv (.int .i64 ((i:Int)+1))]]):=by
 refine sx Tryz.func140 (by kernel_rfl) ?_
 repeat((conv=>whnf);first|refine known true rfl ?_|refine known false rfl ?_)
 conv=>whnf
 rw[wrap_in (by omega)]
 rfl
theorem x_succ20 (i:Int):DCalls Tryz.prog 140 [iV 20 0,int i] (.sl true 1 []):=by
 refine sx Tryz.func140 (by kernel_rfl) ?_
 repeat((conv=>whnf);first|refine known true rfl ?_|refine known false rfl ?_)
 (conv=>whnf)<;>rfl
def cdM:List (Nat×Bool):=[(172,false),(171,false)]
theorem x_find1:MCalls Tryz.prog 172 [exFV,.bx 0 0] [.box [bstr sMain]] (boo (sEq (mk sMain) (mk sMain))) [.box [bstr sMain]]:=by
 refine msx Tryz.func172 (by kernel_rfl) (by kernel_rfl) ?_
 exact⟨rfl,rfl,rfl⟩
theorem x_indexF:MCalls Tryz.prog 171 [.sl false 5 [exF],.fn 172 0 [.bx 0 0]] [.box [bstr sMain]] (int 0) [.box [bstr sMain]]:=by
 refine msxm cdM Tryz.func171 (by kernel_rfl) (by kernel_rfl) ?_
 conv=>whnf
 refine⟨[(3000002,3,0,0)],?_⟩
 conv=>whnf
 refine known true rfl ?_
 conv=>whnf
 refine⟨by decide,_,rfl,?_⟩
 conv=>whnf
 refine mcall (T:=TM cdM) (φ:=[]) x_find1 ?_
 conv=>whnf
 refine known true (by rw[sEq_mk];rfl) ?_
 exact⟨rfl,rfl,rfl⟩
theorem x_cfind:DCalls Tryz.prog 135 [exC,bstr sMain] (int 0):=by
 refine sxm cdM Tryz.func135 (by kernel_rfl) ?_
 conv=>whnf
 refine mcall (T:=TM cdM) (φ:=[]) x_indexF ?_
 rfl
theorem main_tokens:tokens sMain=([⟨1,sMain,0,0⟩],0,0):=by kernel_rfl
theorem x_cname:DCalls Tryz.prog 134 [bstr sMain] (boo true):=by
 have hL:=x_tokens sMain (by decide)
 rw[main_tokens] at hL
 refine sx Tryz.func134 (by kernel_rfl) ?_
 conv=>whnf
 refine⟨_,hL,?_⟩
 repeat((conv=>whnf);first|refine known true rfl ?_|refine known false rfl ?_|refine⟨by decide,_,rfl,?_⟩)
 conv=>whnf
 exact fin_boo (by simp)
theorem x_cfunctions:DCalls Tryz.prog 97 [exC] (.tu [int 0,int 0]):=by
 refine sx Tryz.func97 (by kernel_rfl) ?_
 conv=>whnf
 refine⟨[(3000002,3,0,0)],?_⟩
 repeat((conv=>whnf);first|refine known true rfl ?_|refine known false rfl ?_|refine⟨by decide,_,rfl,?_⟩|refine⟨_,x_cname,?_⟩|refine⟨_,x_cfind,?_⟩|refine⟨_,x_in _ _ _,?_⟩)
 (conv=>whnf)<;>rfl
end Go.Proofs.YtdccglkagfdooaaGreatDoor
namespace Go.Proofs.YtdccglkagfdooaaGreatDoor
open Go.RowKit
theorem boolInfo:∃i,Tryz.prog.info? 4=some i∧i.zero=some (.bool false)∧i.size=1∧i.bytes=1:=by
 have h:(Tryz.prog.info? 4).map (fun i=>(i.zero,i.size,i.bytes))=some (some (.bool false),1,1):=by kernel_rfl
 cases hi:Tryz.prog.info? 4 with
 |none=>rw[hi] at h;cases h
 |some i=>
  rw[hi] at h
  simp only[Option.map_some,Option.some.injEq,Prod.mk.injEq] at h
  exact⟨i,rfl,h.1,h.2.1,h.2.2⟩
abbrev exCL:V:= .ag [.sl false 5 [exF],.sl false 4 exI]
def boolD (b:Bool):List D:=[.cv (.bool b)]
def dK:Nat→List Int
 |0=>[0,-1,-1,-1]
 |_+1=>[0,1,-1,-1]
def fK:Nat→List Bool
 |0=>[false,false,false,false]
 |1=>[true,false,false,false]
 |_+2=>[true,true,false,false]
theorem x_cdepths:MCallsG true Tryz.prog 99 [exCL,exFV,.ow 0 0] [.row 0 3 1 false ([-1,-1,-1,-1].map intD)] (int (-1)) [.row 0 3 1 false ([0,1,-1,-1].map intD)]:=by
 obtain⟨bi,i1,i2,i3,i4⟩:=boolInfo
 refine msxx [] Tryz.func99 (by kernel_rfl) (by kernel_rfl) (by rfl) ?_
 conv=>whnf
 refine at_tr (ot_makeZ (n:=4) (z:= .bool false) (e:=4) (i:=bi) rfl rfl rfl rfl rfl (by kernel_rfl) i1 i2 rfl rfl i3 (by rw[i4];omega) (by omega)) ?_
 conv=>whnf
 refine⟨by decide,by decide,?_⟩
 conv=>whnf
 refine⟨_,rfl,by decide,?_⟩
 conv=>whnf
 refine⟨[],Nat,fun k=>[(8,int k)],fun k=>[(120,some (.row fixV 3 1 false ((dK k).map intD))),(17,some (.row 0 4 1 true ((fK k).map boolD)))],fun k=>k≤4,fun k=>4 - k,0,by decide,?_,?_⟩
 ·refine⟨rfl,?_,?_⟩<;>repeat' (first|exact trivial|exact rfl|refine and_rfl ?_|refine and_val (by decide) ?_|refine and_two ?_ ?_)
 intro k hk
 have hk:k≤4:=hk
 obtain rfl|rfl|rfl|rfl|rfl:k=0∨k=1∨k=2∨k=3∨k=4:=by omega
 ·repeat((conv=>whnf);first|refine known true rfl ?_|refine known false rfl ?_|refine⟨none,by kernel_rfl,?_⟩|refine⟨_,x_pops 5 0 0 (.inl ⟨rfl,rfl,rfl⟩),?_⟩|refine⟨_,x_pops 20 0 1 (.inr (.inl ⟨rfl,rfl,rfl⟩)),?_⟩|refine⟨_,x_succ20 _,?_⟩|refine⟨_,x_succ5 0 (by decide),?_⟩|refine⟨by decide,by decide,?_⟩|refine⟨_,rfl,by decide,?_⟩|refine⟨by decide,_,rfl,?_⟩|refine⟨_,rfl,?_⟩|refine⟨[(3000002,3,0,0)],?_⟩)
  conv=>whnf
  refine⟨1,by decide,by decide,?_⟩
  refine⟨rfl,?_,?_⟩<;>repeat' (first|exact trivial|exact rfl|refine and_rfl ?_|refine and_val (by decide) ?_|refine and_two ?_ ?_)
 ·repeat((conv=>whnf);first|refine known true rfl ?_|refine known false rfl ?_|refine⟨none,by kernel_rfl,?_⟩|refine⟨_,x_pops 5 0 0 (.inl ⟨rfl,rfl,rfl⟩),?_⟩|refine⟨_,x_pops 20 0 1 (.inr (.inl ⟨rfl,rfl,rfl⟩)),?_⟩|refine⟨_,x_succ20 _,?_⟩|refine⟨_,x_succ5 0 (by decide),?_⟩|refine⟨by decide,by decide,?_⟩|refine⟨_,rfl,by decide,?_⟩|refine⟨by decide,_,rfl,?_⟩|refine⟨_,rfl,?_⟩|refine⟨[(3000002,3,0,0)],?_⟩)
  conv=>whnf
  refine⟨2,by decide,by decide,?_⟩
  refine⟨rfl,?_,?_⟩<;>repeat' (first|exact trivial|exact rfl|refine and_rfl ?_|refine and_val (by decide) ?_|refine and_two ?_ ?_)
 ·repeat((conv=>whnf);first|refine known true rfl ?_|refine known false rfl ?_|refine⟨none,by kernel_rfl,?_⟩|refine⟨_,x_pops 5 0 0 (.inl ⟨rfl,rfl,rfl⟩),?_⟩|refine⟨_,x_pops 20 0 1 (.inr (.inl ⟨rfl,rfl,rfl⟩)),?_⟩|refine⟨_,x_succ20 _,?_⟩|refine⟨_,x_succ5 0 (by decide),?_⟩|refine⟨by decide,by decide,?_⟩|refine⟨_,rfl,by decide,?_⟩|refine⟨by decide,_,rfl,?_⟩|refine⟨_,rfl,?_⟩|refine⟨[(3000002,3,0,0)],?_⟩)
  conv=>whnf
  refine⟨3,by decide,by decide,?_⟩
  refine⟨rfl,?_,?_⟩<;>repeat' (first|exact trivial|exact rfl|refine and_rfl ?_|refine and_val (by decide) ?_|refine and_two ?_ ?_)
 ·repeat((conv=>whnf);first|refine known true rfl ?_|refine known false rfl ?_|refine⟨none,by kernel_rfl,?_⟩|refine⟨_,x_pops 5 0 0 (.inl ⟨rfl,rfl,rfl⟩),?_⟩|refine⟨_,x_pops 20 0 1 (.inr (.inl ⟨rfl,rfl,rfl⟩)),?_⟩|refine⟨_,x_succ20 _,?_⟩|refine⟨_,x_succ5 0 (by decide),?_⟩|refine⟨by decide,by decide,?_⟩|refine⟨_,rfl,by decide,?_⟩|refine⟨by decide,_,rfl,?_⟩|refine⟨_,rfl,?_⟩|refine⟨[(3000002,3,0,0)],?_⟩)
  conv=>whnf
  refine⟨4,by decide,by decide,?_⟩
  refine⟨rfl,?_,?_⟩<;>repeat' (first|exact trivial|exact rfl|refine and_rfl ?_|refine and_val (by decide) ?_|refine and_two ?_ ?_)
 ·conv=>whnf
  refine known false rfl ?_
  conv=>whnf
  exact⟨⟨rfl,rfl,rfl⟩,rfl⟩
def vrM:List (Nat×Bool):=[(99,false)]
theorem x_cverify:DCalls Tryz.prog 67 [exC] (.tu [intsV [0,1,-1,-1],int 0,int 0]):=by
 obtain⟨ii,j1,j2,j3,j4⟩:=intInfo
 refine sxm vrM Tryz.func67 (by kernel_rfl) ?_
 repeat((conv=>whnf);first|refine known true rfl ?_|refine known false rfl ?_|refine⟨_,x_cfunctions,?_⟩)
 conv=>whnf
 refine⟨[(3000002,3,0,0)],?_⟩
 conv=>whnf
 refine known true rfl ?_
 conv=>whnf
 refine⟨by decide,_,rfl,?_⟩
 conv=>whnf
 refine⟨[],Nat,fun k=>[(9,int k)],fun _=>[(8,some (.box [bstr sMain,int 1,int 1,int 0,int 4]))],fun k=>k≤4,fun k=>4 - k,0,by decide,?_,?_⟩
 ·refine⟨rfl,?_,?_⟩<;>repeat' (first|exact trivial|exact rfl|refine and_rfl ?_|refine and_val (by decide) ?_|refine and_two ?_ ?_)
 intro k hk
 have hk:k≤4:=hk
 obtain rfl|rfl|rfl|rfl|rfl:k=0∨k=1∨k=2∨k=3∨k=4:=by omega
 ·repeat((conv=>whnf);first|refine known true rfl ?_|refine known false rfl ?_|refine⟨_,x_formed 5 0 (.inl ⟨rfl,rfl⟩),?_⟩|refine⟨_,x_formed 20 0 (.inr (.inl ⟨rfl,rfl⟩)),?_⟩|refine⟨_,x_formed 1 0 (.inr (.inr ⟨rfl,rfl⟩)),?_⟩|refine⟨by decide,_,rfl,?_⟩)
  conv=>whnf
  refine⟨1,by decide,by decide,?_⟩
  refine⟨rfl,?_,?_⟩<;>repeat' (first|exact trivial|exact rfl|refine and_rfl ?_|refine and_val (by decide) ?_|refine and_two ?_ ?_)
 ·repeat((conv=>whnf);first|refine known true rfl ?_|refine known false rfl ?_|refine⟨_,x_formed 5 0 (.inl ⟨rfl,rfl⟩),?_⟩|refine⟨_,x_formed 20 0 (.inr (.inl ⟨rfl,rfl⟩)),?_⟩|refine⟨_,x_formed 1 0 (.inr (.inr ⟨rfl,rfl⟩)),?_⟩|refine⟨by decide,_,rfl,?_⟩)
  conv=>whnf
  refine⟨2,by decide,by decide,?_⟩
  refine⟨rfl,?_,?_⟩<;>repeat' (first|exact trivial|exact rfl|refine and_rfl ?_|refine and_val (by decide) ?_|refine and_two ?_ ?_)
 ·repeat((conv=>whnf);first|refine known true rfl ?_|refine known false rfl ?_|refine⟨_,x_formed 5 0 (.inl ⟨rfl,rfl⟩),?_⟩|refine⟨_,x_formed 20 0 (.inr (.inl ⟨rfl,rfl⟩)),?_⟩|refine⟨_,x_formed 1 0 (.inr (.inr ⟨rfl,rfl⟩)),?_⟩|refine⟨by decide,_,rfl,?_⟩)
  conv=>whnf
  refine⟨3,by decide,by decide,?_⟩
  refine⟨rfl,?_,?_⟩<;>repeat' (first|exact trivial|exact rfl|refine and_rfl ?_|refine and_val (by decide) ?_|refine and_two ?_ ?_)
 ·repeat((conv=>whnf);first|refine known true rfl ?_|refine known false rfl ?_|refine⟨_,x_formed 5 0 (.inl ⟨rfl,rfl⟩),?_⟩|refine⟨_,x_formed 20 0 (.inr (.inl ⟨rfl,rfl⟩)),?_⟩|refine⟨_,x_formed 1 0 (.inr (.inr ⟨rfl,rfl⟩)),?_⟩|refine⟨by decide,_,rfl,?_⟩)
  conv=>whnf
  refine⟨4,by decide,by decide,?_⟩
  refine⟨rfl,?_,?_⟩<;>repeat' (first|exact trivial|exact rfl|refine and_rfl ?_|refine and_val (by decide) ?_|refine and_two ?_ ?_)
 repeat((conv=>whnf);refine known false rfl ?_)
 conv=>whnf
 refine at_tr (ot_makeZ (n:=4) (z:= .int .i64 0) (e:=3) (i:=ii) rfl rfl rfl rfl rfl (by kernel_rfl) j1 j2 rfl rfl j3 (by rw[j4];omega) (by omega)) ?_
 repeat((conv=>whnf);first|refine known true rfl ?_|refine known false rfl ?_|refine⟨by decide,by decide,?_⟩|refine⟨_,rfl,by decide,?_⟩|refine⟨by decide,_,rfl,?_⟩|refine⟨[(3000002,8,0,0)],?_⟩)
 conv=>whnf
 refine mcallF (T:=TM vrM) (φ:=[]) (gf:=false) 81 x_cdepths (flatIS _) ?_ (ln:=true)
 repeat((conv=>whnf);first|refine known true rfl ?_|refine known false rfl ?_)
 (conv=>whnf)<;>rfl
theorem x_ccheck:DCalls Tryz.prog 45 [exC] (.tu [int 0,int 0]):=by
 refine sx Tryz.func45 (by kernel_rfl) ?_
 conv=>whnf
 refine⟨_,x_cverify,?_⟩
 (conv=>whnf)<;>rfl
end Go.Proofs.YtdccglkagfdooaaGreatDoor
namespace Go.Proofs.YtdccglkagfdooaaGreatDoor
open Go.RowKit
section
variable {P:Program} {T:Tab} {B:Fr} {w0:World} {N:Names} {S:Sets} {t:List V} {m:List (Option Bk)} {a:Act} {w:World}
theorem Sat.ghosted (hs:Sat B w0 N S t m a w) (gs:List (V×Value)) (h:∀p∈gs,RelV N S w p.1 p.2):Sat {B with ghost:=gs++B.ghost} w0 N S t m a w:=
 ⟨hs.low,hs.nodef,hs.tmps,hs.blk,hs.non,hs.apart,hs.data,hs.fresh,hs.own,hs.base,hs.old,hs.lent,⟨hs.more.size,fun p hp=>by
  rcases List.mem_append.1 hp with hp|hp
  ·exact h p hp
  ·exact hs.more.ghost p hp,hs.more.aside,hs.more.inv⟩,hs.stay⟩
theorem Sat.unghost {gs:List (V×Value)} (hs:Sat {B with ghost:=gs++B.ghost} w0 N S t m a w):Sat B w0 N S t m a w∧∀p∈gs,RelV N S w p.1 p.2:=
 ⟨⟨hs.low,hs.nodef,hs.tmps,hs.blk,hs.non,hs.apart,hs.data,hs.fresh,hs.own,hs.base,hs.old,hs.lent,⟨hs.more.size,fun p hp=>hs.more.ghost p (List.mem_append_right _ hp),hs.more.aside,hs.more.inv⟩,hs.stay⟩,fun p hp=>hs.more.ghost p (List.mem_append_left _ hp)⟩
theorem gh_ct (hs:Sat B w0 N S t m a w) {d k E sz:Nat} {f:Bool} {raws:List (List Value)} {rs:List (List Cl)} {outs:List V} {uo:List Value} (hm:m[d]?=some (some (.row k E sz f (raws.map fun x=>x.map .cv)))) (ho:RelL N S w outs uo) (hl:rs.length=raws.length) (hr:∀x∈raws,x.length=sz)
  (hC:Cells (S false) w uo rs.flatten raws.flatten []):∃N',Sat B w0 N' S t (m.set d (some (.asr (k+1) (rowC E sz rs) outs))) a w∧(∀v u,RelV N S w v u→RelV N' S w v u)∧∀u,N d=some (k,u)→RelV N' S w (.ow d (k+1)) u:=by
 obtain⟨u,us,h1,h2,h3,h4,h5,h6⟩:=hs.blk d _ hm
 obtain⟨A,c,hu⟩:=own_parts h2
 have hus:us=raws.flatten:=by
  have hlen:us.length=raws.length*sz:=by have:=h2.1;simpa using this
  have hfl:=flat_length hr
  apply List.ext_getElem?
  intro i
  rcases Nat.lt_or_ge i us.length with hi|hi
  ·have hdm:i=i / sz*sz+i % sz:=by rw[Nat.mul_comm];exact(Nat.div_add_mod i sz).symm
   have hq:i / sz<raws.length:=by rw[hlen] at hi;exact Nat.div_lt_of_lt_mul (by rw[Nat.mul_comm];exact hi)
   have hmod:i % sz<sz:=Nat.mod_lt _ h4
   have hx:raws[i / sz].length=sz:=hr _ (List.getElem_mem hq)
   have hv:(raws[i / sz]?.bind fun x=>x[i % sz]?)=some (raws[i / sz])[i % sz]:=by
    rw[List.getElem?_eq_getElem hq];simp[hx,hmod]
   obtain⟨u',e1,e2⟩:=h5 (i / sz) (i % sz) (.cv (raws[i / sz])[i % sz]) (by rw[List.getElem?_map,List.getElem?_eq_getElem hq];simp[hx,hmod])
   rw[←hdm] at e1
   rw[e1]
   have:=flat_at hr hv
   rw[←hdm] at this
   rw[this]
   cases e2
   rfl
  ·rw[List.getElem?_eq_none hi,List.getElem?_eq_none (by rw[hfl,←hlen];exact hi)]
 subst hus
 obtain⟨N',g1,g2,g3⟩:=hs.set (w':=w) (d:=d) (k:=k+1) (v:= .agg [u].toArray) (b:= .asr (k+1) (rowC E sz rs) outs) (lt_of_get hm) (fun k0 v0 h=>by rw[h1] at h;cases h;exact .inr (.inl ⟨⟨_,_,_,hu⟩,by omega⟩))
  hs.low (Nat.le_refl _) (fun _ _ _=>rfl)
  (fun g hg=>by
   obtain⟨v,hv,e⟩:=at_ct.1 hg
   simp at hv;subst hv
   have:At v g:=by rw[hu];rw[hu] at e;exact e
   exact⟨(hs.own d _ _ g h1 this).2,.inr ⟨_,_,h1,this⟩⟩)
  (fun N' e1 e2 e3=>⟨_,uo,e1,⟨ho.1,fun i v hv=>e2 _ _ (ho.2 i v hv)⟩,u,raws.flatten,[],rfl,by simp only[List.length_map] at h2;rw[hl];exact h2,hC,by simp[Dj]⟩)
 refine⟨N',g3,g2,fun u' h=>?_⟩
 rw[h1] at h;cases h
 exact .ow d (k+1) _ (by rw[hu];rfl) ⟨k+1,_,g1,Nat.le_refl _,fun _=>by simp[hdv]⟩
def toCl:List V→Nat→List Cl×List V
 |[],_=>([],[])
 |v::l,i=>match v.d with
  |some (x,_)=>(.d x::(toCl l i).1,(toCl l i).2)
  |none=>(.o i::(toCl l (i+1)).1,v::(toCl l (i+1)).2)
theorem toCl_cells (hTF:∀b,S true b→S false b):∀{vs:List V} {us:List Value} (pre:List V) (upre:List Value),pre.length=upre.length→RelL N S w vs us→allOne vs=true→
  ∃uo,RelL N S w (toCl vs pre.length).2 uo∧Cells (S false) w (upre++uo) (toCl vs pre.length).1 us []
 |[],us,pre,upre,hl,h,_=>by
  have:us=[]:=List.eq_nil_of_length_eq_zero h.1.symm
  subst this
  exact⟨[],⟨rfl,by simp[toCl]⟩,.nil⟩
 |v::vs,us,pre,upre,hl,h,h1=>by
  obtain⟨u,us,rfl,h2,h3⟩:=relL_uncons h
  simp only[allOne,Bool.and_eq_true] at h1
  unfold toCl
  cases hd:v.d with
  |some x=>
   obtain⟨x,f⟩:=x
   obtain⟨uo,e1,e2⟩:=toCl_cells hTF pre upre hl h3 h1.2
   exact⟨uo,e1,.d (RelD.ofV hTF h2 hd fun h=>by cases h) e2⟩
  |none=>
   obtain⟨uo,e1,e2⟩:=toCl_cells hTF (pre++[v]) (upre++[u]) (by simp[hl]) h3 h1.2
   simp only[List.length_append,List.length_singleton] at e1 e2
   exact⟨u::uo,relV_cons h2 e1,.o (by rw[hl];simp) (h2.one h1.1) (by simpa using e2)⟩
theorem gh_nilR {n d i E sz:Nat} {cs:List V} {bt:Option Nat} (hm:m[n]?=some (some (.box cs bt))) (hi:cs[i]?=some (.cv (.slice none 0 0))) (hd:m[d]?=some none) (hsz:0<sz):
  GhM m ((m.set d (some (.row 0 E sz true []))).set n (some (.box (cs.set i (.ow d 0)) bt))):=by
 intro B w0 N S t a w hs
 have hnd:n≠d:=by rintro rfl;rw[hm] at hd;cases hd
 have hnone:N d=none:=hs.non d fun b' h=>by rw[hd] at h;cases h
 obtain⟨N1,g1,g2,g3⟩:=hs.set (w':=w) (d:=d) (k:=0) (v:= .slice none 0 0) (b:= .row 0 E sz true []) (lt_of_get hd) (fun k0 v0 h=>by rw[hnone] at h;cases h) hs.low (Nat.le_refl _) (fun _ _ _=>rfl)
  (fun g hg=>by simp[At,at1] at hg)
  (fun N' e1 e2 e3=>⟨.slice none 0 0,[],e1,⟨by simp,.inl ⟨rfl,rfl⟩⟩,by simp,hsz,fun i j d hd=>by simp at hd,fun _ g hg=>by simp[At,at1] at hg⟩)
 have hm1:(m.set d (some (.row 0 E sz true [])))[n]?=some (some (.box cs bt)):=by rw[List.getElem?_set_ne (Ne.symm hnd)];exact hm
 obtain⟨g,ty,us,b1,b2,b3,b4⟩:=g3.blk n _ hm1
 obtain⟨N2,q1,q2,q3⟩:=g3.set (w':=w) (d:=n) (k:=0) (v:= .pointer (some ⟨g,0,none⟩)) (b:= .box (cs.set i (.ow d 0)) bt) (lt_of_get hm1) (fun k0 v0 h=>by rw[b1] at h;cases h;exact .inl ⟨rfl,rfl⟩) hs.low (Nat.le_refl _) (fun _ _ _=>rfl)
  (fun g' hg=>by cases hg;exact⟨(g3.own n _ _ g b1 rfl).2,.inr ⟨_,_,b1,rfl⟩⟩)
  (fun N' e1 e2 e3=>⟨g,ty,us,e1,b2,by simpa using b3,fun j v hv=>by
   rw[List.getElem?_set] at hv
   split at hv
   ·rename_i hij
    subst hij
    split at hv
    ·cases hv
     have h4:=b4 i _ hi
     generalize us.getD i undef=u at h4
     cases h4
     exact e2 _ _ (.ow d 0 _ rfl ⟨0,_,g1,Nat.le_refl _,fun _=>rfl⟩)
    ·cases hv
   ·exact e2 _ _ (b4 j v hv)⟩)
 exact⟨N2,S,q3,fun v u h=>q2 _ _ (g2 _ _ h)⟩
end
end Go.Proofs.YtdccglkagfdooaaGreatDoor
namespace Go.Proofs.YtdccglkagfdooaaGreatDoor
open Go.RowKit
section
variable {P:Program} {T:Tab} {B:Fr} {w0:World} {N:Names} {S:Sets} {t:List V} {m:List (Option Bk)} {a:Act} {w:World}
end
end Go.Proofs.YtdccglkagfdooaaGreatDoor
namespace Go.Proofs.YtdccglkagfdooaaGreatDoor
open Go.RowKit
section
variable {P:Program} {T:Tab} {B:Fr} {w0:World} {N:Names} {S:Sets} {t:List V} {m:List (Option Bk)} {a:Act} {w:World}
end
end Go.Proofs.YtdccglkagfdooaaGreatDoor
