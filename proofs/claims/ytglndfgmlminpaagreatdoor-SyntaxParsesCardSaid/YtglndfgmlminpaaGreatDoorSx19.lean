/- Texts joined by pack.py: XLx13 XLx14 XLx15 XLx16 XSxC1 XLx17 XLxP0 XLx18 XLx19 XLx20 XLx21 -/
import Derived.Test.YtglndfgmlminpaaGreatDoorSx18
import Derived.Test.YtglndfgmlminpaaGreatDoorSx15
import Derived.Laws.MakeOwn
import Derived.Laws.CopyRow
import Derived.Tactics
import Derived.Tactics2
import Derived.Defers
import Derived.Laws.Pointers
import Derived.Laws.LoneSync
import Derived.RegionTactic
import Derived.RegionCalls
import Derived.ChangeAlike
set_option maxHeartbeats 4000000
set_option maxRecDepth 100000
namespace Go.Proofs.YtglndfgmlminpaaGreatDoor
open Go.RowKit
def symL (m:Bs):Nat:=if 2≤m.length∧symB (m.take 2) then 2 else if symB (m.take 1) then 1 else 0
theorem mk_mid (l:Bs) (n k:Nat):(mk l).extract ((n:Nat):Int).toNat ((n+k:Nat):Int).toNat=mk ((l.drop n).take k):=by
 rw[Int.toNat_natCast,Int.toNat_natCast,mk_ext,List.drop_take,show n+k - n=k by omega]
theorem x_rsym (l:Bs) (n:Nat) (hn:n<l.length) (hl:l.length≤281474976710656):DCalls Tryz.prog 103 [bstr l,int n] (int (n+symL (l.drop n):Nat)):=by
 refine sx Tryz.func103 (by kernel_rfl) ?_
 have hw2:IntKind.i64.wrap ((n:Int)+2)=((n+2:Nat):Int):=by rw[IntWalk.i64_in _ (by omega)];rfl
 have hw1:IntKind.i64.wrap ((n:Int)+1)=((n+1:Nat):Int):=wrap_succ (by omega)
 have hsl:∀k,(List.take k (List.drop n l)).length<9223372036854775807:=by intro k;rw[List.length_take,List.length_drop];omega
 have hdl:(l.drop n).length=l.length - n:=List.length_drop ..
 have tail:∀{K:V→Prop},True:=trivial
 conv=>whnf
 rw[hw2]
 rintro(_|_) h1
 ·simp[mk_size] at h1
  conv=>whnf
  rw[hw1]
  refine⟨by omega,by omega,by rw[mk_size];omega,?_⟩
  rw[mk_mid l n 1]
  conv=>whnf
  refine⟨_,x_rsymbol _ (hsl 1),?_⟩
  conv=>whnf
  rintro(_|_) h2
  ·conv=>whnf
   exact fin_int (by unfold symL;rw[if_neg (by omega),h2];simp)
  ·conv=>whnf
   rw[hw1]
   exact fin_int (by unfold symL;rw[if_neg (by omega),h2];simp)
 simp[mk_size] at h1
 conv=>whnf
 rw[hw2]
 refine⟨by omega,by omega,by rw[mk_size];omega,?_⟩
 rw[mk_mid l n 2]
 conv=>whnf
 refine⟨_,x_rsymbol _ (hsl 2),?_⟩
 conv=>whnf
 rintro(_|_) h3
 rotate_left
 ·conv=>whnf
  rw[hw2]
  exact fin_int (by unfold symL;rw[if_pos ⟨by omega,h3⟩])
 conv=>whnf
 rw[hw1]
 refine⟨by omega,by omega,by rw[mk_size];omega,?_⟩
 rw[mk_mid l n 1]
 conv=>whnf
 refine⟨_,x_rsymbol _ (hsl 1),?_⟩
 conv=>whnf
 rintro(_|_) h2
 ·conv=>whnf
  exact fin_int (by unfold symL;rw[h3,h2];simp)
 ·conv=>whnf
  rw[hw1]
  exact fin_int (by unfold symL;rw[h3,h2];simp)
def oneP (m:Bs) (n:Nat):Tok×Nat×Nat×Int:=
 match m with
 |[]=>(noTok,0,0,0)
 |c::r=>
  if isDg c then(if decB (digW (c::r))=false then(⟨3,[],0,n⟩,0,n,1) else(⟨3,[],(pnum (digW (c::r))).1,n⟩,n+(digW (c::r)).length,n,(pnum (digW (c::r))).2))
  else if c==34 then(if(txt r 1 []).2.2=0 then(⟨4,(txt r 1 []).1,0,n⟩,n+(txt r 1 []).2.1,0,0) else(⟨4,[],0,n⟩,0,n+(txt r 1 []).2.1,(txt r 1 []).2.2))
  else if c==64 then(if runL r=0 then(noTok,0,n,1) else if runL r>24 then(noTok,0,n,3) else(⟨6,r.take (runL r),0,n⟩,n+1+runL r,0,0))
  else if runL (c::r)>24 then(noTok,0,n,3)
  else if runL (c::r)>0∧kwL ((c::r).take (runL (c::r))) then(⟨2,(c::r).take (runL (c::r)),0,n⟩,n+runL (c::r),0,0)
  else if runL (c::r)>0 then(⟨1,(c::r).take (runL (c::r)),0,n⟩,n+runL (c::r),0,0)
  else if symL (c::r)=0 then(noTok,0,n,1)
  else(⟨5,(c::r).take (symL (c::r)),0,n⟩,n+symL (c::r),0,0)
abbrev oneV (p:Tok×Nat×Nat×Int):V:= .tu [p.1.V,int p.2.1,int p.2.2.1,int p.2.2.2]
theorem x_rkeywordL (l:Bs):DCalls Tryz.prog 102 [bstr l] (boo (kwL l)):=x_rkeyword (mk l)
theorem x_one (l:Bs) (n:Nat) (hn:n<l.length) (hl:l.length≤281474976710656):DCalls Tryz.prog 58 [bstr l,int n] (oneV (oneP (l.drop n) n)):=by
 have hd:=drop_cons hn
 have hw1:IntKind.i64.wrap ((n:Int)+1)=((n+1:Nat):Int):=wrap_succ (by omega)
 refine sx Tryz.func58 (by kernel_rfl) ?_
 conv=>whnf
 refine⟨by omega,_,mk_at hn,?_⟩
 conv=>whnf
 refine⟨_,x_digit l[n],?_⟩
 conv=>whnf
 rintro(_|_) h1
 rotate_left
 ·conv=>whnf
  refine⟨_,x_number l n hn h1 hl,?_⟩
  rw[show numV n (digW (l.drop n))=numV n (digW (l[n]::l.drop (n+1))) by rw[←hd]]
  have e:oneP (l.drop n) n=if decB (digW (l[n]::l.drop (n+1)))=false then(⟨3,[],0,n⟩,0,n,1) else(⟨3,[],(pnum (digW (l[n]::l.drop (n+1)))).1,n⟩,n+(digW (l[n]::l.drop (n+1))).length,n,(pnum (digW (l[n]::l.drop (n+1)))).2):=by
   rw[hd];unfold oneP;simp only[h1,if_true]
  rw[e]
  unfold numV
  by_cases hB:decB (digW (l[n]::l.drop (n+1)))=false
  ·rw[if_pos hB,if_pos hB]
   (conv=>whnf)<;>rfl
  ·rw[if_neg hB,if_neg hB]
   (conv=>whnf)<;>rfl
 conv=>whnf
 refine⟨by omega,_,mk_at hn,?_⟩
 conv=>whnf
 rintro(_|_) h2
 rotate_left
 ·have h2' : l[n] = 34 := by have:(l[n]==34)=true:=by rw[u8_eq];simp at*;omega
                             simpa using this
  have e:oneP (l.drop n) n=if(txt (l.drop (n+1)) 1 []).2.2=0 then(⟨4,(txt (l.drop (n+1)) 1 []).1,0,n⟩,n+(txt (l.drop (n+1)) 1 []).2.1,0,0) else(⟨4,[],0,n⟩,0,n+(txt (l.drop (n+1)) 1 []).2.1,(txt (l.drop (n+1)) 1 []).2.2):=by
   rw[hd,h2'];unfold oneP;rfl
  rw[e]
  conv=>whnf
  refine⟨_,x_rtext l n hn (by omega),?_⟩
  unfold rtxV
  by_cases hB:(txt (l.drop (n+1)) 1 []).2.2=0
  ·rw[if_pos hB,if_pos hB]
   (conv=>whnf)<;>rfl
  ·rw[if_neg hB,if_neg hB]
   (conv=>whnf)<;>rfl
 have h2':(l[n]==34)=false:=by rw[u8_eq];simp at*;omega
 conv=>whnf
 refine⟨by omega,_,mk_at hn,?_⟩
 conv=>whnf
 rintro(_|_) h3
 rotate_left
 ·have h3' : l[n] = 64 := by have:(l[n]==64)=true:=by rw[u8_eq];simp at*;omega
                             simpa using this
  have hrl:=runL_le (l.drop (n+1))
  rw[List.length_drop] at hrl
  have e:oneP (l.drop n) n=if runL (l.drop (n+1))=0 then(noTok,0,n,1) else if runL (l.drop (n+1))>24 then(noTok,0,n,3) else(⟨6,(l.drop (n+1)).take (runL (l.drop (n+1))),0,n⟩,n+1+runL (l.drop (n+1)),0,0):=by
   rw[hd,h3'];unfold oneP;rfl
  rw[e]
  conv=>whnf
  rw[hw1]
  refine⟨_,x_rrun l (n+1) (by omega) (by omega),?_⟩
  conv=>whnf
  rw[hw1]
  rintro(_|_) h4
  rotate_left
  ·simp at h4
   rw[if_pos (by omega)]
   (conv=>whnf)<;>rfl
  simp at h4
  rw[if_neg (by omega)]
  have hw25:IntKind.i64.wrap (((n+1:Nat):Int)+24)=((n+1+24:Nat):Int):=by rw[IntWalk.i64_in _ (by omega)];rfl
  conv=>whnf
  rw[hw1,hw25]
  rintro(_|_) h5
  rotate_left
  ·simp at h5
   rw[if_pos (by omega)]
   (conv=>whnf)<;>rfl
  simp at h5
  rw[if_neg (by omega)]
  conv=>whnf
  rw[hw1]
  refine⟨by omega,by omega,by rw[mk_size];omega,?_⟩
  rw[mk_mid l (n+1)]
  (conv=>whnf)<;>rfl
 have h3':(l[n]==64)=false:=by rw[u8_eq];simp at*;omega
 have e:oneP (l.drop n) n=if runL (l.drop n)>24 then(noTok,0,n,3)
  else if runL (l.drop n)>0∧kwL ((l.drop n).take (runL (l.drop n))) then(⟨2,(l.drop n).take (runL (l.drop n)),0,n⟩,n+runL (l.drop n),0,0)
  else if runL (l.drop n)>0 then(⟨1,(l.drop n).take (runL (l.drop n)),0,n⟩,n+runL (l.drop n),0,0)
  else if symL (l.drop n)=0 then(noTok,0,n,1)
  else(⟨5,(l.drop n).take (symL (l.drop n)),0,n⟩,n+symL (l.drop n),0,0):=by
  rw[hd];unfold oneP;simp only[h1,h2',h3',Bool.false_eq_true,if_false]
 rw[e]
 have hrl:=runL_le (l.drop n)
 rw[List.length_drop] at hrl
 conv=>whnf
 refine⟨_,x_rrun l n (by omega) (by omega),?_⟩
 have hw24:IntKind.i64.wrap ((n:Int)+24)=((n+24:Nat):Int):=by rw[IntWalk.i64_in _ (by omega)];rfl
 conv=>whnf
 rw[hw24]
 rintro(_|_) h4
 rotate_left
 ·simp at h4
  rw[if_pos (by omega)]
  (conv=>whnf)<;>rfl
 simp at h4
 rw[if_neg (by omega)]
 conv=>whnf
 rintro(_|_) h5
 ·simp at h5
  rw[if_neg (by omega),if_neg (by omega)]
  conv=>whnf
  refine known false (by simp;omega) ?_
  conv=>whnf
  refine⟨_,x_rsym l n hn hl,?_⟩
  conv=>whnf
  rintro(_|_) h6
  ·simp at h6
   have hsl:symL (l.drop n)≤l.length - n:=by
    unfold symL
    rw[List.length_drop]
    split
    ·omega
    ·split<;>omega
   rw[if_neg (by omega)]
   conv=>whnf
   refine⟨by omega,by omega,by rw[mk_size];omega,?_⟩
   rw[mk_mid l n]
   (conv=>whnf)<;>rfl
  ·simp at h6
   rw[if_pos (by omega)]
   (conv=>whnf)<;>rfl
 simp at h5
 conv=>whnf
 refine⟨by omega,by omega,by rw[mk_size];omega,?_⟩
 rw[mk_mid l n]
 conv=>whnf
 refine⟨_,x_rkeywordL _,?_⟩
 conv=>whnf
 rintro(_|_) h6
 ·rw[if_neg (by rw[h6];simp),if_pos (by omega)]
  conv=>whnf
  refine known true (by simp;omega) ?_
  conv=>whnf
  refine⟨by omega,by omega,by rw[mk_size];omega,?_⟩
  rw[mk_mid l n]
  (conv=>whnf)<;>rfl
 ·rw[if_pos ⟨by omega,h6⟩]
  conv=>whnf
  refine⟨by omega,by omega,by rw[mk_size];omega,?_⟩
  rw[mk_mid l n]
  (conv=>whnf)<;>rfl
end Go.Proofs.YtglndfgmlminpaaGreatDoor
namespace Go.Proofs.YtglndfgmlminpaaGreatDoor
open Go.RowKit
theorem txt_len:∀(l:Bs) (i:Nat) (out:Bs),(txt l i out).2.2=0→i+1≤(txt l i out).2.1∧(txt l i out).2.1≤i+l.length
 |[],i,out,h=>by simp[txt] at h
 |c::l,i,out,h=>by
  by_cases h1:(decide (c<32)||decide (c>126))=true
  ·rw[txt_bad h1] at h;simp at h
  have h1:(decide (c<32)||decide (c>126))=false:=by simpa using h1
  by_cases h2:c=34
  ·subst h2;rw[txt_end];simp
  by_cases h3:c=92
  ·subst h3
   cases l with
   |nil=>rw[txt_bs0] at h;simp at h
   |cons d l=>
    by_cases h4:(d==34||d==92)=true
    ·rw[txt_bs2 h4] at h⊢
     split at h
     ·simp at h
     ·rename_i h5
      rw[if_neg h5]
      have:=txt_len l (i+2) (out++[d]) h
      simp only[List.length_cons];omega
    ·rw[txt_bs1 (by simpa using h4)] at h;simp at h
  rw[txt_go h1 h2 h3] at h⊢
  split at h
  ·simp at h
  ·rename_i h5
   rw[if_neg h5]
   have:=txt_len l (i+1) (out++[c]) h
   simp only[List.length_cons];omega
theorem runL_pos {c:UInt8} {r:Bs} (h:isHd c=true):1≤runL (c::r):=by simp[runL,h]
theorem digL_pos {c:UInt8} {r:Bs} (h:isDg c=true):1≤digL (c::r):=by simp[digL,h]
theorem tok1_len (c:UInt8) (r:Bs) (h:(tok1 (c::r)).2.2=0):1≤(tok1 (c::r)).2.1∧(tok1 (c::r)).2.1≤(c::r).length:=by
 cases h1:isHd c with
 |true=>
  have a:=runL_pos (r:=r) h1
  have b:=runL_le (c::r)
  rw[tok1_hd h1] at h⊢
  split at h
  ·simp at h
  ·rename_i h2;rw[if_neg h2];split<;>exact⟨a,b⟩
 |false=>
 cases h2:isDg c with
 |true=>
  have a:=digL_pos (r:=r) h2
  have b:=digL_le (c::r)
  rw[tok1_dg h1 h2] at h⊢
  split at h
  ·rename_i h3;rw[if_pos h3];exact⟨a,b⟩
  ·rename_i h3;exact absurd h h3
 |false=>
 cases h3:(c==34) with
 |true=>
  have:c=34:=by simpa using h3
  subst this
  rw[tok1_qt] at h⊢
  split at h
  ·rename_i h4;rw[if_pos h4];have:=txt_len r 1 [] h4;simp only[List.length_cons];omega
  ·rename_i h4;exact absurd h h4
 |false=>
 cases h4:(c==64) with
 |true=>
  have:c=64:=by simpa using h4
  subst this
  have b:=runL_le r
  rw[tok1_at] at h⊢
  split at h
  ·simp at h
  ·rename_i h5;rw[if_neg h5]
   split at h
   ·simp at h
   ·rename_i h6;rw[if_neg h6];simp only[List.length_cons];omega
 |false=>
  rw[tok1_sy h1 h2 h3 h4] at h⊢
  split at h
  ·rename_i h5;rw[if_pos h5];exact⟨by simp,h5.1⟩
  ·rename_i h5;rw[if_neg h5]
   split at h
   ·rename_i h6;rw[if_pos h6];simp
   ·simp at h
theorem one_tok (c:UInt8) (r:Bs) (n:Nat):(oneP (c::r) n).2.2.2=(tok1 (c::r)).2.2∧
  (if(tok1 (c::r)).2.2=0 then(oneP (c::r) n).1={(tok1 (c::r)).1 with at_:=n}∧(oneP (c::r) n).2.1=n+(tok1 (c::r)).2.1 else(oneP (c::r) n).2.2.1=n+(tok1 (c::r)).2.1):=by
 cases h2:isDg c with
 |true=>
  have h1:isHd c=false:=by
   have:=dg_int h2
   rw[isHd_int];simp;omega
  have hdig:=digs_take (l:=r) h2
  have hp:=decB_pnum _ hdig
  rw[tok1_dg h1 h2]
  have e:oneP (c::r) n=if decB (digW (c::r))=false then(⟨3,[],0,n⟩,0,n,1) else(⟨3,[],(pnum (digW (c::r))).1,n⟩,n+(digW (c::r)).length,n,(pnum (digW (c::r))).2):=by
   unfold oneP;simp only[h2,if_true]
  rw[e]
  have hl:(digW (c::r)).length=digL (c::r):=by unfold digW;rw[List.length_take];have:=digL_le (c::r);omega
  rw[show(c::r).take (digL (c::r))=digW (c::r) from rfl] at*
  by_cases hB:decB (digW (c::r))=false
  ·rw[if_pos hB] at hp⊢
   rw[hp];simp
  ·rw[if_neg hB] at hp⊢
   by_cases h0:(pnum (digW (c::r))).2=0
   ·rw[if_pos h0];simp[h0,hl]
   ·rw[if_neg h0];simp[h0]
 |false=>
 cases h3:(c==34) with
 |true=>
  have:c=34:=by simpa using h3
  subst this
  rw[tok1_qt]
  have e:oneP (34::r) n=if(txt r 1 []).2.2=0 then(⟨4,(txt r 1 []).1,0,n⟩,n+(txt r 1 []).2.1,0,0) else(⟨4,[],0,n⟩,0,n+(txt r 1 []).2.1,(txt r 1 []).2.2):=by
   unfold oneP;rfl
  rw[e]
  by_cases h0:(txt r 1 []).2.2=0
  ·rw[if_pos h0,if_pos h0];simp
  ·rw[if_neg h0,if_neg h0];simp[h0]
 |false=>
 cases h4:(c==64) with
 |true=>
  have:c=64:=by simpa using h4
  subst this
  rw[tok1_at]
  have e:oneP (64::r) n=if runL r=0 then(noTok,0,n,1) else if runL r>24 then(noTok,0,n,3) else(⟨6,r.take (runL r),0,n⟩,n+1+runL r,0,0):=by
   unfold oneP;rfl
  rw[e]
  by_cases h5:runL r=0
  ·rw[if_pos h5,if_pos h5];simp
  ·rw[if_neg h5,if_neg h5]
   by_cases h6:runL r>24
   ·rw[if_pos h6,if_pos h6];simp
   ·rw[if_neg h6,if_neg h6];simp;omega
 |false=>
  have e:oneP (c::r) n=if runL (c::r)>24 then(noTok,0,n,3)
   else if runL (c::r)>0∧kwL ((c::r).take (runL (c::r))) then(⟨2,(c::r).take (runL (c::r)),0,n⟩,n+runL (c::r),0,0)
   else if runL (c::r)>0 then(⟨1,(c::r).take (runL (c::r)),0,n⟩,n+runL (c::r),0,0)
   else if symL (c::r)=0 then(noTok,0,n,1)
   else(⟨5,(c::r).take (symL (c::r)),0,n⟩,n+symL (c::r),0,0):=by
   unfold oneP;simp only[h2,h3,h4,Bool.false_eq_true,if_false]
  rw[e]
  cases h1:isHd c with
  |true=>
   have a:runL (c::r)>0:=runL_pos (r:=r) h1
   rw[tok1_hd h1]
   by_cases h5:runL (c::r)>24
   ·rw[if_pos h5,if_pos h5];simp
   ·rw[if_neg h5,if_neg h5]
    by_cases h6:kwL ((c::r).take (runL (c::r)))=true
    ·rw[if_pos h6,if_pos ⟨a,h6⟩];simp
    ·rw[if_neg h6,if_neg (fun h=>h6 h.2),if_pos a];simp
  |false=>
   have h0:runL (c::r)=0:=by simp[runL,h1]
   rw[tok1_sy h1 h2 h3 h4,h0]
   rw[if_neg (by omega),if_neg (by omega),if_neg (by omega)]
   unfold symL
   by_cases h5:2≤(c::r).length∧symB ((c::r).take 2)=true
   ·rw[if_pos h5,if_pos h5];simp
   ·rw[if_neg h5,if_neg h5]
    by_cases h6:symB ((c::r).take 1)=true
    ·rw[if_pos h6,if_pos h6];simp
    ·rw[if_neg h6,if_neg h6];simp
theorem toksF_succ (f:Nat) (c:UInt8) (r:Bs) (at_:Nat) (out:List Tok):toksF (f+1) (c::r) at_ out=if out.length=1000 then([],at_,3) else if(tok1 (c::r)).2.2=0 then
  toksF f ((c::r).drop ((tok1 (c::r)).2.1+skip ((c::r).drop (tok1 (c::r)).2.1))) (at_+(tok1 (c::r)).2.1+skip ((c::r).drop (tok1 (c::r)).2.1)) (out++[{(tok1 (c::r)).1 with at_:=at_}])
  else([],at_+(tok1 (c::r)).2.1,(tok1 (c::r)).2.2):=by
 conv=>lhs;unfold toksF
 rw[if_neg (by simp)]
theorem toksF_fuel:∀(f g:Nat) (l:Bs) (at_:Nat) (out:List Tok),l.length≤f→l.length≤g→toksF f l at_ out=toksF g l at_ out
 |0,0,l,at_,out,_,_=>rfl
 |0,g+1,l,at_,out,hf,_=>by
  have:l=[]:=List.eq_nil_of_length_eq_zero (by omega)
  subst this;simp[toksF]
 |f+1,0,l,at_,out,_,hg=>by
  have:l=[]:=List.eq_nil_of_length_eq_zero (by omega)
  subst this;simp[toksF]
 |f+1,g+1,l,at_,out,hf,hg=>by
  cases l with
  |nil=>simp[toksF]
  |cons c r=>
   rw[toksF_succ,toksF_succ]
   split
   ·rfl
   ·split
    ·rename_i h
     have:=tok1_len c r h
     simp only[List.length_cons] at hf hg this
     exact toksF_fuel f g _ _ _ (by rw[List.length_drop,List.length_cons];omega) (by rw[List.length_drop,List.length_cons];omega)
    ·rfl
def TKs (l:Bs) (at_:Nat) (out:List Tok):List Tok×Nat×Int:=toksF l.length l at_ out
theorem TKs_nil (at_:Nat) (out:List Tok):TKs [] at_ out=(out,0,0):=rfl
theorem TKs_full {c:UInt8} {r:Bs} {at_:Nat} {out:List Tok} (h:out.length=1000):TKs (c::r) at_ out=([],at_,3):=by
 unfold TKs;rw[List.length_cons,toksF_succ,if_pos h]
theorem TKs_err {c:UInt8} {r:Bs} {at_:Nat} {out:List Tok} (h:out.length≠1000) (he:(tok1 (c::r)).2.2≠0):TKs (c::r) at_ out=([],at_+(tok1 (c::r)).2.1,(tok1 (c::r)).2.2):=by
 unfold TKs;rw[List.length_cons,toksF_succ,if_neg h,if_neg he]
theorem TKs_ok {c:UInt8} {r:Bs} {at_:Nat} {out:List Tok} (h:out.length≠1000) (he:(tok1 (c::r)).2.2=0):TKs (c::r) at_ out=
  TKs ((c::r).drop ((tok1 (c::r)).2.1+skip ((c::r).drop (tok1 (c::r)).2.1))) (at_+(tok1 (c::r)).2.1+skip ((c::r).drop (tok1 (c::r)).2.1)) (out++[{(tok1 (c::r)).1 with at_:=at_}]):=by
 have hl:=tok1_len c r he
 simp only[List.length_cons] at hl
 unfold TKs
 rw[List.length_cons,toksF_succ,if_neg h,if_pos he]
 exact toksF_fuel _ _ _ _ _ (by rw[List.length_drop,List.length_cons];omega) (Nat.le_refl _)
theorem skp_le:∀(b:Bool) (l:Bs),skp b l≤l.length
 |_,[]=>Nat.zero_le _
 |false,c::l=>by
  have h1:=skp_le false l
  have h2:=skp_le true l
  simp only[skp,List.length_cons]
  split
  ·omega
  ·split<;>omega
 |true,c::l=>by
  have h1:=skp_le false l
  have h2:=skp_le true l
  simp only[skp,List.length_cons]
  split<;>omega
theorem tokens_TKs (l:Bs) (h:l.length≤4000):tokens l=TKs (l.drop (skip l)) (skip l) []:=by
 unfold tokens TKs
 rw[if_neg (by omega)]
 exact toksF_fuel _ _ _ _ _ (by rw[List.length_drop];omega) (Nat.le_refl _)
end Go.Proofs.YtglndfgmlminpaaGreatDoor
namespace Go.Proofs.YtglndfgmlminpaaGreatDoor
open Go.RowKit
abbrev tksV (p:List Tok×Nat×Int):V:= .tu [toks p.1,int p.2.1,int p.2.2]
theorem txt_le:∀(l:Bs) (i:Nat) (out:Bs),(txt l i out).2.1≤i+l.length
 |[],i,out=>by simp[txt]
 |c::l,i,out=>by
  by_cases h1:(decide (c<32)||decide (c>126))=true
  ·rw[txt_bad h1];simp
  have h1:(decide (c<32)||decide (c>126))=false:=by simpa using h1
  by_cases h2:c=34
  ·subst h2;rw[txt_end];simp only[List.length_cons];omega
  by_cases h3:c=92
  ·subst h3
   cases l with
   |nil=>rw[txt_bs0];simp
   |cons d l=>
    by_cases h4:(d==34||d==92)=true
    ·rw[txt_bs2 h4]
     split
     ·simp
     ·have:=txt_le l (i+2) (out++[d])
      simp only[List.length_cons];omega
    ·rw[txt_bs1 (by simpa using h4)];simp
  rw[txt_go h1 h2 h3]
  split
  ·simp
  ·have:=txt_le l (i+1) (out++[c])
   simp only[List.length_cons];omega
theorem tok1_le' (c:UInt8) (r:Bs):(tok1 (c::r)).2.1≤(c::r).length:=by
 by_cases h:(tok1 (c::r)).2.2=0
 ·exact(tok1_len c r h).2
 cases h1:isHd c with
 |true=>
  rw[tok1_hd h1] at h⊢
  split at h<;>rename_i h2
  ·rw[if_pos h2];simp
  ·split at h<;>simp at h
 |false=>
 cases h2:isDg c with
 |true=>
  rw[tok1_dg h1 h2] at h⊢
  split at h<;>rename_i h3
  ·simp at h
  ·rw[if_neg h3];simp
 |false=>
 cases h3:(c==34) with
 |true=>
  have:c=34:=by simpa using h3
  subst this
  rw[tok1_qt] at h⊢
  split at h<;>rename_i h4
  ·simp at h
  ·rw[if_neg h4];have:=txt_le r 1 [];simp only[List.length_cons];omega
 |false=>
 cases h4:(c==64) with
 |true=>
  have:c=64:=by simpa using h4
  subst this
  rw[tok1_at] at h⊢
  split at h<;>rename_i h5
  ·rw[if_pos h5];simp
  ·split at h<;>rename_i h6
   ·rw[if_neg h5,if_pos h6];simp
   ·simp at h
 |false=>
  rw[tok1_sy h1 h2 h3 h4] at h⊢
  split at h<;>rename_i h5
  ·simp at h
  ·split at h<;>rename_i h6
   ·simp at h
   ·rw[if_neg h5,if_neg h6];simp
theorem tok1_le (c:UInt8) (r:Bs) {n:Nat} (h:(c::r).length≤n):(tok1 (c::r)).2.1≤n:=Nat.le_trans (tok1_le' c r) h
theorem x_tokens (l:Bs) (hl:l.length≤281474976710656):DCalls Tryz.prog 23 [bstr l] (tksV (tokens l)):=by
 refine sx Tryz.func23 (by kernel_rfl) ?_
 conv=>whnf
 rintro(_|_) h0
 rotate_left
 ·simp[mk_size] at h0
  rw[show tokens l=([],0,3) by unfold tokens;rw[if_pos (by omega)]]
  (conv=>whnf)<;>rfl
 simp[mk_size] at h0
 have hlen:l.length≤4000:=by omega
 rw[tokens_TKs l hlen]
 conv=>whnf
 refine⟨_,x_skip l (by omega),?_⟩
 have hsk:skip l≤l.length:=skp_le false l
 generalize hR:TKs (l.drop (skip l)) (skip l) []=R
 conv=>whnf
 refine⟨[(5,48,89,4)],Nat×List Tok,fun⟨k,out⟩=>[(6,int k),(5,.ow 48 0),(7,.un)],fun⟨k,out⟩=>[(48,some (.row 0 89 4 true (out.map tokD))),(7,none)],fun⟨k,out⟩=>k≤l.length∧out.length≤1000∧TKs (l.drop k) k out=R,fun x=>l.length - x.1,(skip l,[]),⟨hsk,by simp,hR⟩,?_,?_⟩
 ·refine⟨rfl,?_,?_⟩<;>repeat' (first|exact trivial|exact rfl|refine and_rfl ?_|refine and_two ?_ ?_)
 rintro⟨k,out⟩ ⟨hk1,hk2,hk⟩
 conv=>whnf
 rintro(_|_) h2
 ·simp[mk_size] at h2
  rw[List.drop_eq_nil_of_le h2,TKs_nil] at hk
  rw[←hk]
  (conv=>whnf)<;>rfl
 have h2:k<l.length:=by simp only[mk_size] at h2;simp at h2;omega
 have hd:=drop_cons h2
 conv=>whnf
 rintro(_|_) h3
 rotate_left
 ·simp at h3
  rw[hd,TKs_full (by omega)] at hk
  rw[←hk]
  (conv=>whnf)<;>rfl
 have h3:out.length≠1000:=by simp at h3;omega
 conv=>whnf
 refine⟨by omega,by rw[mk_size];omega,by omega,?_⟩
 rw[mk_fromI,hd]
 have hlc:(l[k]::l.drop (k+1)).length=l.length - k:=by rw[←hd,List.length_drop]
 conv=>whnf
 refine⟨_,x_token l[k] (l.drop (k+1)) (by omega),?_⟩
 have hcr:l.drop k=l[k]::l.drop (k+1):=hd
 generalize l.drop (k+1)=r at*
 have hdrop:∀a b,l.drop (k+a+b)=(l[k]::r).drop (a+b):=fun a b=>by rw[←hcr,List.drop_drop,Nat.add_assoc]
 generalize l[k]=c at*
 rw[hcr] at hk
 conv=>whnf
 rintro(_|_) h4
 rotate_left
 ·have h4:(tok1 (c::r)).2.2≠0:=by simpa using h4
  rw[TKs_err h3 h4] at hk
  rw[←hk]
  have hb:(tok1 (c::r)).2.1≤281474976710656:=tok1_le c r (by omega)
  conv=>whnf
  rw[show IntKind.i64.wrap ((k:Int)+((tok1 (c::r)).2.1:Nat))=((k+(tok1 (c::r)).2.1:Nat):Int) by rw[IntWalk.i64_in _ (by omega)];omega]
  rfl
 have h4:(tok1 (c::r)).2.2=0:=by simpa using h4
 rw[TKs_ok h3 h4] at hk
 have hl4:=tok1_len c r h4
 have hw:IntKind.i64.wrap ((k:Int)+((tok1 (c::r)).2.1:Nat))=((k+(tok1 (c::r)).2.1:Nat):Int):=by rw[IntWalk.i64_in _ (by omega)];omega
 conv=>whnf
 refine⟨by simp;omega,?_⟩
 conv=>whnf
 rw[hw]
 refine⟨by omega,by rw[mk_size];omega,by omega,?_⟩
 rw[mk_fromI,←List.drop_drop,hcr]
 have hsk2:skip ((c::r).drop (tok1 (c::r)).2.1)≤((c::r).drop (tok1 (c::r)).2.1).length:=skp_le false _
 rw[List.length_drop] at hsk2
 conv=>whnf
 refine⟨_,x_skip ((c::r).drop (tok1 (c::r)).2.1) (by rw[List.length_drop];omega),?_⟩
 have hw2:IntKind.i64.wrap (((k+(tok1 (c::r)).2.1:Nat):Int)+((skip ((c::r).drop (tok1 (c::r)).2.1):Nat):Int))=((k+(tok1 (c::r)).2.1+skip ((c::r).drop (tok1 (c::r)).2.1):Nat):Int):=by rw[IntWalk.i64_in _ (by omega)];omega
 conv=>whnf
 refine⟨(k+(tok1 (c::r)).2.1+skip ((c::r).drop (tok1 (c::r)).2.1),out++[{(tok1 (c::r)).1 with at_:=k}]),⟨by omega,by simp;omega,by rw[hdrop];exact hk⟩,by dsimp only;omega,?_⟩
 refine⟨rfl,?_,?_⟩<;>repeat' (first|exact trivial|exact rfl|refine and_rfl ?_|refine and_val hw2 ?_|refine and_two ?_ ?_|(simp[tokD];done))
end Go.Proofs.YtglndfgmlminpaaGreatDoor
namespace Go.Proofs.YtglndfgmlminpaaGreatDoor
open Go.RowKit
theorem x_rtokens (l:Bs) (hl:l.length≤281474976710656):DCalls Tryz.prog 27 [bstr l] (tksV (tokens l)):=by
 refine sx Tryz.func27 (by kernel_rfl) ?_
 conv=>whnf
 rintro(_|_) h0
 rotate_left
 ·simp[mk_size] at h0
  rw[show tokens l=([],0,3) by unfold tokens;rw[if_pos (by omega)]]
  (conv=>whnf)<;>rfl
 simp[mk_size] at h0
 have hlen:l.length≤4000:=by omega
 rw[tokens_TKs l hlen]
 conv=>whnf
 refine⟨_,x_rskip l 0 (by omega) (by omega),?_⟩
 rw[List.drop_zero,Nat.zero_add]
 have hsk:skip l≤l.length:=skp_le false l
 generalize hR:TKs (l.drop (skip l)) (skip l) []=R
 conv=>whnf
 refine⟨[(5,39,89,4)],Nat×List Tok,fun⟨k,out⟩=>[(6,int k),(5,.ow 39 0),(7,.un)],fun⟨k,out⟩=>[(39,some (.row 0 89 4 true (out.map tokD))),(7,none)],fun⟨k,out⟩=>k≤l.length∧out.length≤1000∧TKs (l.drop k) k out=R,fun x=>l.length - x.1,(skip l,[]),⟨hsk,by simp,hR⟩,?_,?_⟩
 ·refine⟨rfl,?_,?_⟩<;>repeat' (first|exact trivial|exact rfl|refine and_rfl ?_|refine and_two ?_ ?_)
 rintro⟨k,out⟩ ⟨hk1,hk2,hk⟩
 conv=>whnf
 rintro(_|_) h2
 ·simp[mk_size] at h2
  rw[List.drop_eq_nil_of_le h2,TKs_nil] at hk
  rw[←hk]
  (conv=>whnf)<;>rfl
 have h2:k<l.length:=by simp only[mk_size] at h2;simp at h2;omega
 have hd:=drop_cons h2
 conv=>whnf
 rintro(_|_) h3
 rotate_left
 ·simp at h3
  rw[hd,TKs_full (by omega)] at hk
  rw[←hk]
  (conv=>whnf)<;>rfl
 have h3:out.length≠1000:=by simp at h3;omega
 have hlc:(l[k]::l.drop (k+1)).length=l.length - k:=by rw[←hd,List.length_drop]
 conv=>whnf
 refine⟨_,x_one l k h2 hl,?_⟩
 have hcr:l.drop k=l[k]::l.drop (k+1):=hd
 have hdrop:∀a b,l.drop (k+a+b)=(l[k]::l.drop (k+1)).drop (a+b):=fun a b=>by rw[←hcr,List.drop_drop,Nat.add_assoc]
 obtain⟨o1,o2⟩:=one_tok l[k] (l.drop (k+1)) k
 rw[hcr] at hk⊢
 generalize l.drop (k+1)=r at*
 generalize l[k]=c at*
 generalize oneP (c::r) k=o at*
 conv=>whnf
 rintro(_|_) h4
 rotate_left
 ·have h4:(tok1 (c::r)).2.2≠0:=by rw[←o1];simpa using h4
  rw[TKs_err h3 h4,←o1] at hk
  rw[if_neg h4] at o2
  rw[←o2] at hk
  rw[←hk]
  (conv=>whnf)<;>rfl
 have h4:(tok1 (c::r)).2.2=0:=by rw[←o1];simpa using h4
 rw[TKs_ok h3 h4] at hk
 rw[if_pos h4] at o2
 obtain⟨o2,o3⟩:=o2
 have hl4:=tok1_len c r h4
 conv=>whnf
 refine⟨by simp;omega,?_⟩
 rw[o3]
 have hsk2:skip ((c::r).drop (tok1 (c::r)).2.1)≤((c::r).drop (tok1 (c::r)).2.1).length:=skp_le false _
 rw[List.length_drop] at hsk2
 conv=>whnf
 refine⟨_,x_rskip l (k+(tok1 (c::r)).2.1) (by omega) (by omega),?_⟩
 have hd0:=hdrop (tok1 (c::r)).2.1 0
 rw[Nat.add_zero,Nat.add_zero] at hd0
 rw[hd0]
 conv=>whnf
 refine⟨(k+(tok1 (c::r)).2.1+skip ((c::r).drop (tok1 (c::r)).2.1),out++[{(tok1 (c::r)).1 with at_:=k}]),⟨by omega,by simp;omega,by rw[hdrop];exact hk⟩,by dsimp only;omega,?_⟩
 refine⟨rfl,?_,?_⟩<;>repeat' (first|exact trivial|exact rfl|refine and_rfl ?_|refine and_two ?_ ?_|(simp[tokD,o2];done))
end Go.Proofs.YtglndfgmlminpaaGreatDoor
namespace Go.Proofs.YtglndfgmlminpaaGreatDoor
open Go.RowKit
section
variable {P:Program} {o:Oper} {E:Operand→V} {m:List (Option Bk)} {s d:TypeId} {x:Operand}
theorem byte_get {l:List UInt8} {i j:Nat} {d:D} (h:((l.map byteD)[i]?.bind fun x=>x[j]?)=some d):j=0∧∃b,l[i]?=some b∧d= .cv (.int .u8 (b.toNat:Nat)):=by
 rw[List.getElem?_map] at h
 cases hi:l[i]? with
 |none=>rw[hi] at h;cases h
 |some b=>
  rw[hi] at h
  cases j with
  |zero=>simp[byteD] at h;exact⟨rfl,b,rfl,h.symm⟩
  |succ j=>simp[byteD] at h
theorem Sat.bytes {B:Fr} {w0:World} {N:Names} {S:Sets} {t:List V} {a:Act} {w:World} (hs:Sat B w0 N S t m a w) {n k e g cap:Nat} {l l':List UInt8} {us':Array Value} {w':World}
  (hm:m[n]?=some (some (.row k e 1 true (l.map byteD)))) (hn:N n=some (k,.slice (some ⟨g,0,none⟩) l.length cap)) (hle:l.length≤cap) (hmax:cap≤maxLen) (hus:us'.size=cap)
  (hupd:Upd w w' g us' e) (hlen:l'.length=l.length) (hval:∀(j:Nat) (b:UInt8),l'[j]?=some b→us'[j]?=some (Value.int .u8 (b.toNat:Nat))):
  ∃N',Sat B w0 N' S t (m.set n (some (.row k e 1 true (l'.map byteD)))) a w':=by
 obtain⟨hB,hg⟩:=hs.own n _ _ g hn rfl
 have hfr:=row_new hs hm hn
 obtain⟨N',e1,e2,e3⟩:=hs.set (w':=w') (d:=n) (k:=k) (v:= .slice (some ⟨g,0,none⟩) l.length cap) (b:= .row k e 1 true (l'.map byteD)) (lt_of_get hm)
  (fun k0 v0 h=>by rw[hn] at h;cases h;exact .inl ⟨rfl,rfl⟩)
  (hupd.low hs.low hB) (by rw[hupd.size];exact Nat.le_refl _) (fun g' _ hk=>hupd.other g' fun e=>hk _ _ hn (by rw[e];rfl))
  (fun g' hg'=>by cases hg';exact⟨by rw[hupd.size];exact hg,.inr ⟨_,_,hn,rfl⟩⟩)
  (fun N' e1 e2 e3=>by
   refine⟨_,us'.toList.take l.length,e1,⟨?_,.inr ⟨g,cap,us',?_,Nat.zero_le _,hupd.new,?_,hmax,by rw[hus,Nat.mul_one],?_⟩⟩,?_,by omega,?_,fun _=>hfr⟩
   ·rw[List.length_take,List.length_map,hlen];simp[hus];omega
   ·rw[List.length_map,hlen]
   ·rw[List.length_map,hlen];exact hle
   ·rw[List.length_map,hlen,Nat.mul_one]
   ·intro x hx;obtain⟨b,_,rfl⟩:=List.mem_map.1 hx;rfl
   ·intro i j d hd
    obtain⟨rfl,b,hb,rfl⟩:=byte_get hd
    have hi:=lt_of_get hb
    refine⟨_,?_,.cv _ rfl⟩
    rw[show i*1+0=i by omega,List.getElem?_take,if_pos (by omega)]
    simpa using hval i b hb)
 exact⟨N',e3⟩
end
end Go.Proofs.YtglndfgmlminpaaGreatDoor
namespace Go.Proofs.YtglndfgmlminpaaGreatDoor
open Go.RowKit
def sp (c:UInt8):Bool:=c==34||c==92
def ex (l:Bs):Nat:=l.count 92+l.count 34
theorem x_count (s:ByteArray) (c:UInt8):DCalls Tryz.prog 258 [str s,bstr [c]] (int (s.data.toList.count c:Nat)):=
 dcalls_val Tryz.func258 (by kernel_rfl) (by kernel_rfl) rfl rfl fun w _=>(Tryz.strings_Count_one s c w).mono fun e w' ⟨h1,h2⟩=>⟨h1,h2▸Below.refl _ _⟩
theorem esc_len:∀l:Bs,(esc l).length=l.length+ex l
 |[]=>rfl
 |c::l=>by
  have:=esc_len l
  unfold ex at*
  simp only[esc,List.count_cons]
  by_cases h1:c=34
  ·subst h1;simp;omega
  ·by_cases h2:c=92
   ·subst h2;simp;omega
   ·simp[h1,h2];omega
theorem esc_app (a b:Bs):esc (a++b)=esc a++esc b:=by
 induction a with
 |nil=>rfl
 |cons c a ih=>simp only[List.cons_append,esc];split<;>simp[ih]
theorem esc_one (c:UInt8):esc [c]=if sp c then [92,c] else [c]:=by unfold sp;rfl
theorem ex_app (a b:Bs):ex (a++b)=ex a+ex b:=by unfold ex;simp only[List.count_append];omega
theorem ex_one (c:UInt8):ex [c]=if sp c then 1 else 0:=by
 unfold ex sp
 by_cases h1:c=34
 ·subst h1;rfl
 ·by_cases h2:c=92
  ·subst h2;rfl
  ·simp[h1,h2]
theorem ex_le (l:Bs):ex l≤l.length:=by
 induction l with
 |nil=>simp[ex]
 |cons c l ih=>
  rw[show c::l=[c]++l from rfl,ex_app,ex_one]
  simp only[List.length_append,List.length_singleton];split<;>omega
end Go.Proofs.YtglndfgmlminpaaGreatDoor
namespace Go.Proofs.YtglndfgmlminpaaGreatDoor
open Go.RowKit
theorem dval_snoc:∀(l:Bs) (c:UInt8) (n:Nat),dval (l++[c]) n=10*dval l n+(c.toNat - 48)
 |[],c,n=>rfl
 |d::l,c,n=>by simp only[List.cons_append,dval];exact dval_snoc l c _
theorem ofNat_dig {c:UInt8} (h:isDg c=true):UInt8.ofNat (48+(c.toNat - 48))=c:=by
 have h1:=dg_int h
 rw[show 48+(c.toNat - 48)=c.toNat by omega]
 exact UInt8.ofNat_toNat
theorem decDigits_dval:∀(k:Nat) (d:Bs),d.length=k+1→(∀c∈d,isDg c=true)→(1<d.length→d.head?≠some 48)→Lib.decDigits (dval d 0)=d∧(1<d.length→1≤dval d 0)∧(d.head?≠some 48→1≤dval d 0)
 |0,d,hk,hd,_=>by
  obtain⟨c,rfl⟩:∃c,d=[c]:=List.length_eq_one_iff.1 hk
  have hc:=hd c (by simp)
  have h1:=dg_int hc
  have hv:dval [c] 0=c.toNat - 48:=by simp[dval]
  refine⟨?_,by simp,fun h=>?_⟩
  ·rw[hv,decDigits_lt (by omega),ofNat_dig hc]
  ·rw[hv]
   have:c≠48:=by simpa using h
   have:c.toNat≠48:=fun e=>this (UInt8.toNat_inj.1 (by rw[e];rfl))
   omega
 |k+1,d,hk,hd,h0=>by
  obtain⟨e,c,rfl⟩:∃e c,d=e++[c]:=⟨d.dropLast,d.getLast (by intro h;rw[h] at hk;simp at hk),(List.dropLast_concat_getLast _).symm⟩
  have hke:e.length=k+1:=by simpa using hk
  have hc:=hd c (by simp)
  have h1:=dg_int hc
  have hh:(e++[c]).head?=e.head?:=by cases e with
   |nil=>simp at hke
   |cons a b=>rfl
  have hne:e.head?≠some 48:=by rw[←hh];exact h0 (by simp;omega)
  obtain⟨i1,i2,i3⟩:=decDigits_dval k e hke (fun x hx=>hd x (by simp[hx])) (fun _=>hne)
  have:=i3 hne
  refine⟨?_,fun _=>?_,fun _=>?_⟩
  ·rw[dval_snoc,decDigits_ge (by omega),show(10*dval e 0+(c.toNat - 48)) / 10=dval e 0 by omega,i1,show(10*dval e 0+(c.toNat - 48)) % 10=c.toNat - 48 by omega,ofNat_dig hc]
  ·rw[dval_snoc];omega
  ·rw[dval_snoc];omega
theorem itoa_dval {d:Bs} (h:digs d) (h0:decB d=true):Lib.itoa (dval d 0:Int)=d:=by
 obtain⟨h1,h2⟩:=h
 have hl:d.length≠0:=by simpa using h1
 rw[Lib.itoa_nonneg]
 refine(decDigits_dval (d.length - 1) d (by omega) h2 fun h3 h4=>?_).1
 unfold decB at h0
 rw[h4] at h0
 simp at h0
 rw[h0] at h3
 simp at h3
def sep (r:Bs):Prop:=∀c,r.head?=some c→isBl c=true
theorem runT_take:∀l:Bs,runT (l.take (runT l))=runT l
 |[]=>rfl
 |c::l=>by
  simp only[runT]
  split
  ·rename_i h;simp only[List.take_succ_cons,runT,h,if_true,runT_take l]
  ·rfl
theorem runL_take (l:Bs):runL (l.take (runL l))=runL l:=by
 cases l with
 |nil=>rfl
 |cons c l=>
  cases h:isHd c with
  |true=>simp only[runL,h,if_true,List.take_succ_cons,runT_take l]
  |false=>simp only[runL,h,Bool.false_eq_true,if_false,List.take_zero]
theorem whole_take {l:Bs} (h1:1≤runL l) (h2:runL l≤24):wholeB (l.take (runL l))=true:=by
 have hl:=runL_le l
 have h3:(l.take (runL l)).length=runL l:=by rw[List.length_take];omega
 unfold wholeB
 rw[runL_take,h3]
 have:(l.take (runL l)).isEmpty=false:=by
  cases hx:l.take (runL l) with
  |nil=>rw[hx] at h3;simp at h3;omega
  |cons a b=>rfl
 simp[this,h2]
theorem whole_elim {x:Bs} (h:wholeB x=true):x≠[]∧runL x=x.length∧x.length≤24:=by
 unfold wholeB at h;simp at h
 exact⟨h.1.1,h.1.2,h.2⟩
end Go.Proofs.YtglndfgmlminpaaGreatDoor
namespace Go.Proofs.YtglndfgmlminpaaGreatDoor
open Go.RowKit
section
variable {P:Program} {o:Oper} {E:Operand→V} {m:List (Option Bk)}
end
end Go.Proofs.YtglndfgmlminpaaGreatDoor
namespace Go.Proofs.YtglndfgmlminpaaGreatDoor
open Go.RowKit
def brD:List D:=(((List.replicate 256 (D.cv (.slice none 0 0))).set 92 (.sl 1 ([92,92].map byteD))).set 34 (.sl 1 ([92,34].map byteD)))++[.sl 1 [[.cv (.string (mk [92]))],[.cv (.string (mk [34]))]]]
def BR (w:World) (g B:Nat):Prop:=RelV (fun _=>none) (fun _ b=>b<w.heap.size∧b≠g) w (.el true brD 0) (.pointer (some ⟨B,0,none⟩))
end Go.Proofs.YtglndfgmlminpaaGreatDoor
namespace Go.Proofs.YtglndfgmlminpaaGreatDoor
open Go.RowKit
structure RS (w W:World) (g B:Nat) (row:Value) (us:Array Value):Prop where
 at_:∃ty,W.heap[g]?=some (.cells us ty (0,0))
 size:us.size=5
 br:BR W g B
 keep:∀b,b<w.heap.size→b≠g→atOf row≠some b→W.heap[b]?=w.heap[b]?
 os:W.os=w.os
 tape:W.tape=w.tape
 output:W.output=w.output
 grow:w.heap.size≤W.heap.size
theorem RS.cell {w W:World} {g B:Nat} {row:Value} {us:Array Value} (h:RS w W g B row us) (k:Nat):W.cell? ⟨g,k,none⟩=us[k]?:=by
 obtain⟨ty,h1⟩:=h.at_
 unfold World.cell?
 simp only[h1]
 simp
theorem BR.mono {w W:World} {g B:Nat} (h:BR w g B) (hs:w.heap.size≤W.heap.size) (hk:∀b,b<w.heap.size→b≠g→W.heap[b]?=w.heap[b]?):BR W g B:=
 RelV.mono (w:=w) (w':=W) (N:=fun _=>none) (N':=fun _=>none) (S:=fun _ b=>b<w.heap.size∧b≠g) (NLe.refl _) (fun _ _ hb=>⟨Nat.lt_of_lt_of_le hb.1 hs,hb.2⟩) (fun _ b hb=>hk b hb.1 hb.2) h
theorem RS.set {w W:World} {g B:Nat} {row:Value} {us:Array Value} (h:RS w W g B row us) (k:Nat) (v:Value):RS w (W.setCell ⟨g,k,none⟩ v) g B row (us.setIfInBounds k v):=by
 obtain⟨ty,h1⟩:=h.at_
 have e:=setCell_eq_setRow W g k us ty (0,0) v h1
 rw[e]
 refine⟨⟨ty,setRow_heap W g us _ ty (0,0) h1⟩,by simp[h.size],h.br.mono (by simp) (fun b hb hne=>setRow_other W g b _ hne),fun b hb h2 h3=>(setRow_other W g b _ h2).trans (h.keep b hb h2 h3),h.os,h.tape,h.output,by simp[h.grow]⟩
theorem RS.drew {w W:World} {g B:Nat} {row:Value} {us:Array Value} (h:RS w W g B row us):RS w W.drew g B row us:=
 ⟨h.at_,h.size,h.br.mono (w:=W) (W:=W.drew) (Nat.le_refl _) (fun _ _ _=>rfl),h.keep,h.os,h.tape,h.output,h.grow⟩
theorem RS.inv {w W:World} {g B:Nat} {row:Value} {us:Array Value} (h:RS w W g B row us) (hi:ginv w) (hng:¬glob g) (hap:∀b,atOf row=some b→¬glob b):ginv W:=
 ginv_low (keep:=fun b=>b<w.heap.size∧b≠g∧atOf row≠some b) hi (fun b hb=>⟨ginv_lt hi hb,fun e=>hng (e▸hb),fun e=>hap b e hb⟩) fun b hb=>h.keep b hb.1 hb.2.1 hb.2.2
end Go.Proofs.YtglndfgmlminpaaGreatDoor
namespace Go.Proofs.YtglndfgmlminpaaGreatDoor
open Go.RowKit
end Go.Proofs.YtglndfgmlminpaaGreatDoor
