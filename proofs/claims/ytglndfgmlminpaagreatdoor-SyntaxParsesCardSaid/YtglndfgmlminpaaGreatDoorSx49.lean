/- Texts joined by pack.py: XSyZH XSyZI XSyZC -/
import Derived.Test.YtglndfgmlminpaaGreatDoorSx48
import Derived.Test.YtglndfgmlminpaaGreatDoorSx44
import Derived.Test.YtglndfgmlminpaaGreatDoorSx37
set_option maxHeartbeats 16000000
set_option maxRecDepth 100000
namespace Go.Proofs.YtglndfgmlminpaaGreatDoor
open Go.RowKit
def planZ10:Plan:= .one 2 (.pull 0 (.alt 1 (.one 3 (.one 4 (.one 5 (.one 6 (.one 7 .done))))) (.alt 3 (.one 1 (.one 4 (.one 5 (.one 6 (.one 7 .done))))) .stop)))
section
variable {l:List Tok} {e:Int} {f g:Nat} {S:RdF Int} {P:Pars}
theorem rdq_block (ho:∀k,0≤offT e (l.drop k)) (hE:RC 106 S l e f) (hG:GoodR l 1 f S P) (hl:l.length≤1000000):RC 64 (blockG l e S) l e (f+1):=by
 intro s h1 h2 h3 h4
 generalize hR:blockG l e S s=R
 unfold blockG at hR
 dsimp only at hR
 have ht:=rTake_num ho (s:=s) sLC h2 (.inl h1)
 have cT:=rdq_take (e:=e) (s:=s) sLC hl h2
 refine rcx Tryz.func64 (by kernel_rfl) (by kernel_rfl) ?_
 conv=>whnf
 refine mcall (T:=TM radM) (φ:=[]) (gf:=false) cT ?_
 clear cT
 generalize rTake l e sLC s=s1 at ht hR
 generalize hX:stmtsR l S (l.length+1 - s1.k) [] s1=X at hR
 conv=>whnf
 refine⟨[],List Int×Rs,fun _=>[(3,.ow 6 0),(6,.un)],fun⟨js,s⟩=>[(25,some (rBox l e s 26)),(26,some (rRow s.ns)),(6,some (.row 0 3 1 true (js.map intD)))],
  fun⟨js,s⟩=>∃g,RdIn l f s∧js.length≤s.k+1∧(s.fl<0→js.length≤s.k∧l.length<s.k+g)∧stmtsR l S g js s=X,fun⟨_,s⟩=>if s.fl<0 then l.length - s.k+1 else 0,([],s1),⟨_,by unfold RdIn;omega,by simp,fun _=>⟨by simp,by(try dsimp only);omega⟩,hX⟩,?_,?_⟩
 ·refine⟨rfl,?_,?_⟩<;>repeat' (first|exact trivial|exact rfl|refine and_rfl ?_|refine and_two ?_ ?_)
 clear ht h1 h2 h3 h4 hX
 rintro⟨js,s⟩ ⟨g,hI,hj,hg,hX⟩
 have hljs:(js.map intD).length=js.length:=List.length_map _
 have hend:(s.fl<0→isSym sRC (l.drop s.k)=true)→X=(js,s):=fun h=>by
  rw[←hX]
  cases g with
  |zero=>rfl
  |succ g=>unfold stmtsR;rw[if_neg (fun h1=>by rw[h h1.1] at h1;exact absurd h1.2 (by decide))]
 conv=>whnf
 refine mcall (T:=TM radM) (φ:=[]) (gf:=false) rdq_good ?_
 conv=>whnf
 rintro(_|_) hf
 ·have hf:¬s.fl<0:=by simpa using hf
  have hX:=hend (fun h=>absurd h hf)
  subst hX
  dsimp only at hR
  have ht:=rTake_num (e:=e) ho (s:=s) sRC hI.k (by omega)
  have hns:=hI.ns
  have cT:=rdq_take (e:=e) (s:=s) sRC hl hI.k
  generalize rTake l e sRC s=s2 at ht cT hR
  subst hR
  repeat((conv=>whnf);first|refine known true rfl ?_|refine known false rfl ?_)
  conv=>whnf
  refine mcall (T:=TM radM) (φ:=[]) (gf:=false) cT ?_
  conv=>whnf
  refine mcall (T:=TM radM) (φ:=[]) (gf:=false) (rdq_add (e:=e) (s:=s2) (ndM 19 [] 0 js) (by omega)) ?_
  conv=>whnf
  exact⟨rfl,rfl,rfl⟩
 have hf:s.fl<0:=by simpa using hf
 obtain⟨a1,a2,a3,a4⟩:=hI.fl hf
 obtain⟨hj2,hg2⟩:=hg hf
 conv=>whnf
 refine mcall (T:=TM radM) (φ:=[]) (gf:=false) (rdq_sym sRC hl) ?_
 rcases cR:isSym sRC (l.drop s.k) with _|_
 rotate_left
 ·have hX:=hend (fun _=>cR)
  subst hX
  dsimp only at hR
  have ht:=rTake_num (e:=e) ho (s:=s) sRC hI.k (by omega)
  have hns:=hI.ns
  have cT:=rdq_take (e:=e) (s:=s) sRC hl hI.k
  generalize rTake l e sRC s=s2 at ht cT hR
  subst hR
  repeat((conv=>whnf);first|refine known true rfl ?_|refine known false rfl ?_)
  conv=>whnf
  refine mcall (T:=TM radM) (φ:=[]) (gf:=false) cT ?_
  conv=>whnf
  refine mcall (T:=TM radM) (φ:=[]) (gf:=false) (rdq_add (e:=e) (s:=s2) (ndM 19 [] 0 js) (by omega)) ?_
  conv=>whnf
  exact⟨rfl,rfl,rfl⟩
 clear hend
 obtain⟨g',rfl⟩:∃g',g=g'+1:=⟨g - 1,by omega⟩
 unfold stmtsR at hX
 rw[if_pos ⟨hf,cR⟩] at hX
 have hn:=hG.num a1 a2 a3
 have cE:=hE s a1 a2 a3 a4
 generalize S s=x1 at hn hX cE
 obtain⟨j,s2⟩:=x1
 dsimp only at hn hX cE
 conv=>whnf
 refine known true rfl ?_
 conv=>whnf
 refine mcall (T:=TM radM) (φ:=[]) (gf:=false) cE ?_
 conv=>whnf
 refine⟨by rw[hljs];show(js.length+1)*8≤_;omega,?_⟩
 conv=>whnf
 refine⟨(js++[j],s2),⟨g',by unfold RdIn;omega,by simp;omega,fun h=>⟨by simp;omega,by(try dsimp only);omega⟩,hX⟩,?_,?_⟩
 ·dsimp only
  rw[if_pos hf]
  split<;>omega
 refine⟨rfl,?_,?_⟩<;>repeat' (first|exact trivial|exact rfl|(rw[List.map_append];exact rfl)|refine and_rfl ?_|refine and_two ?_ ?_)
end
end Go.Proofs.YtglndfgmlminpaaGreatDoor
namespace Go.Proofs.YtglndfgmlminpaaGreatDoor
open Go.RowKit
theorem rName_num {l:List Tok} {e:Int} (ho:∀k,0≤offT e (l.drop k)) {s:Rs} (h1:s.fl= -1):(rName l e s).2.ns=s.ns∧(((rName l e s).2.fl= -1∧(rName l e s).2.k=s.k+1∧s.k<l.length)∨(0≤(rName l e s).2.fl∧(rName l e s).2.k=s.k)):=by
 unfold rName
 split
 ·rename_i h
  exact⟨rfl,.inl ⟨h1,rfl,kind_lt h (by decide)⟩⟩
 ·unfold rBad
  rw[if_neg (by omega)]
  exact⟨rfl,.inr ⟨ho _,rfl⟩⟩
abbrev rfcV (x:Fc):V:= .ag [bstr x.name,.sl true 1 (x.params.map strD),int x.body]
section
variable {l:List Tok} {e:Int} {f:Nat} {B:RdF Int}
theorem rdq_function (ho:∀k,0≤offT e (l.drop k)) (hB:RC 64 B l e f) (hl:l.length≤1000000) (s:Rs) (h1:s.fl= -1) (_h2:s.k≤l.length) (h3:l.length<s.k+f) (h4:s.ns.length+2*(l.length - s.k)≤2000000):
  MCalls Tryz.prog 29 [.bx 0 0] (rM l e s) (rfcV (funcR l e B s).1) (rM l e (funcR l e B s).2):=by
 generalize hR:funcR l e B s=R
 unfold funcR at hR
 dsimp only at hR
 refine rcx Tryz.func29 (by kernel_rfl) (by kernel_rfl) ?_
 conv=>whnf
 refine mcall (T:=TM radM) (φ:=[]) (gf:=false) (rdq_word wFunc hl) ?_
 rcases cF:isWrd wFunc (l.drop s.k) with _|_
 ·rw[if_neg (by rw[cF];simp)] at hR
  subst hR
  conv=>whnf
  refine known true rfl ?_
  conv=>whnf
  refine mcall (T:=TM radM) (φ:=[]) (gf:=false) (rdq_bad hl) ?_
  conv=>whnf
  exact⟨rfl,rfl,rfl⟩
 rw[if_pos cF] at hR
 have hlt:=tk_lt cF
 have hw:IntKind.i64.wrap (((s.k:Nat):Int)+1)=((s.k+1:Nat):Int):=wrap_succ (by omega)
 conv=>whnf
 refine known false rfl ?_
 conv=>whnf
 rw[hw]
 have cN:=rdq_name (e:=e) (s:=rAdv s) hl hlt
 have hnn:=rName_num ho (s:=rAdv s) h1
 dsimp only[rAdv] at cN hnn hR
 generalize rName l e ⟨s.k+1,s.ns,s.fl⟩=x at cN hnn hR
 obtain⟨nm,s1⟩:=x
 dsimp only at cN hnn hR
 obtain⟨hns1,hnn⟩:=hnn
 have hns1:s1.ns.length=s.ns.length:=by rw[hns1]
 have ht:=rTake_num (e:=e) ho (s:=s1) sLP (by omega) (by omega)
 have cT:=rdq_take (e:=e) (s:=s1) sLP hl (by omega)
 generalize rTake l e sLP s1=s2 at ht cT hR
 conv=>whnf
 refine mcall (T:=TM radM) (φ:=[]) (gf:=false) cN ?_
 conv=>whnf
 refine mcall (T:=TM radM) (φ:=[]) (gf:=false) cT ?_
 clear cN cT hw
 unfold parG at hR
 conv=>whnf
 refine mcall (T:=TM radM) (φ:=[]) (gf:=false) rdq_good ?_
 have hcase:(s2.fl<0∧isSym sRP (l.drop s2.k)=true)∨(s2.fl<0∧isSym sRP (l.drop s2.k)=false)∨¬s2.fl<0:=by
  cases isSym sRP (l.drop s2.k)<;>simp<;>omega
 rcases hcase with⟨hf,cP⟩|hcase
 ·rw[if_pos (show s2.fl<0∧isSym sRP (l.drop s2.k)=true from⟨hf,cP⟩)] at hR
  have hlt2:=tk_lt cP
  have hw:IntKind.i64.wrap (((s2.k:Nat):Int)+1)=((s2.k+1:Nat):Int):=wrap_succ (by omega)
  conv=>whnf
  refine known true (by simp;omega) ?_
  conv=>whnf
  refine mcall (T:=TM radM) (φ:=[]) (gf:=false) (rdq_sym sRP hl) ?_
  rw[cP]
  conv=>whnf
  refine known true rfl ?_
  conv=>whnf
  rw[hw]
  dsimp only[rAdv] at hR
  conv=>whnf
  refine mcall (T:=TM radM) (φ:=[]) (gf:=false) (rdq_good (s:=⟨s2.k+1,s2.ns,s2.fl⟩)) ?_
  conv=>whnf
  refine known true (by simp;omega) ?_
  rw[if_pos hf] at hR
  have cB:=hB ⟨s2.k+1,s2.ns,s2.fl⟩ (by(try dsimp only);omega) hlt2 (by(try dsimp only);omega) (by(try dsimp only);omega)
  subst hR
  conv=>whnf
  refine mcall (T:=TM radM) (φ:=[]) (gf:=false) cB ?_
  conv=>whnf
  exact⟨rfl,rfl,rfl⟩
 have hneg:¬(s2.fl<0∧isSym sRP (l.drop s2.k)=true):=by
  intro h
  rcases hcase with hc|hc
  ·rw[hc.2] at h;exact absurd h.2 (by decide)
  ·exact hc h.1
 rw[if_neg hneg] at hR
 generalize hX:parR l e (l.length+1 - s2.k) [] s2=X at hR
 have hI2:RdIn l f s2:=by unfold RdIn;omega
 have hg2:s2.fl<0→l.length<s2.k+(l.length+1 - s2.k):=fun _=>by omega
 clear ht hnn h1 _h2 h3 h4 hlt cF hns1
 rcases hcase with⟨hf,cP⟩|hf
 conv=>whnf
 refine known true (by simp;omega) ?_
 conv=>whnf
 refine mcall (T:=TM radM) (φ:=[]) (gf:=false) (rdq_sym sRP hl) ?_
 rw[cP]
 conv=>whnf
 refine known false rfl ?_
 rotate_left
 conv=>whnf
 refine known false (by simp;omega) ?_
 repeat((conv=>whnf);first|refine known true rfl ?_|refine known false rfl ?_)
 rotate_left
 all_goals
  conv=>whnf
  refine⟨[(1003001,83,9,1)],List Bs×Rs,fun _=>[],fun⟨ps,s⟩=>[(67,some (rBox l e s 68)),(68,some (rRow s.ns)),(83,some (.row 0 9 1 true (ps.map strD)))],
   fun⟨ps,s⟩=>∃g,RdIn l f s∧ps.length≤s.k+1∧(s.fl<0→ps.length≤s.k∧l.length<s.k+g)∧parR l e g ps s=X,fun⟨_,s⟩=>if s.fl<0 then l.length - s.k+1 else 0,([],s2),⟨_,hI2,by simp,fun h=>⟨by simp,hg2 h⟩,hX⟩,?_,?_⟩
  ·refine⟨rfl,?_,?_⟩<;>repeat' (first|exact trivial|exact rfl|refine and_rfl ?_|refine and_two ?_ ?_)
  clear hI2 hg2 hX hf
  rintro⟨ps,s⟩ ⟨g,hI,hj,hg,hX⟩
  have hlps:(ps.map strD).length=ps.length:=List.length_map _
  conv=>whnf
  refine mcall (T:=TM radM) (φ:=[]) (gf:=false) rdq_good ?_
  conv=>whnf
  rintro(_|_) hf
  ·have hf:¬s.fl<0:=by simpa using hf
   have hX:X=(ps,s):=by
    rw[←hX]
    cases g with
    |zero=>rfl
    |succ g=>unfold parR;rw[if_neg hf]
   subst hX
   dsimp only at hR
   rw[if_neg hf] at hR
   subst hR
   conv=>whnf
   refine mcall (T:=TM radM) (φ:=[]) (gf:=false) rdq_good ?_
   conv=>whnf
   refine known false (by simp;omega) ?_
   conv=>whnf
   exact⟨rfl,rfl,rfl⟩
  have hf:s.fl<0:=by simpa using hf
  obtain⟨a1,a2,a3,a4⟩:=hI.fl hf
  obtain⟨hj2,hg2⟩:=hg hf
  obtain⟨g',rfl⟩:∃g',g=g'+1:=⟨g - 1,by omega⟩
  unfold parR at hX
  rw[if_pos hf] at hX
  dsimp only at hX
  have cN:=rdq_name (e:=e) (s:=s) hl a2
  have hnn:=rName_num ho (s:=s) a1
  generalize rName l e s=x at cN hnn hX
  obtain⟨pn,s3⟩:=x
  dsimp only at cN hnn hX
  obtain⟨hns3,hnn⟩:=hnn
  have hns3:s3.ns.length=s.ns.length:=by rw[hns3]
  have hsz:((ps.map strD).length+1)*16≤140737488355328:=by rw[hlps];omega
  refine shareE ?_ (fun hsh=>?_) ?_
  rotate_left
  ·conv=>whnf
   refine⟨some planZ10,by kernel_rfl,?_⟩
   conv=>whnf
   refine⟨.bx 3 1,fun m2 K2 hK=>hK,?_⟩
   conv=>whnf
   refine And.intro ?_ ?_
   ·conv=>whnf
    refine mcall (T:=TM radM) (φ:=[]) (gf:=false) cN ?_
    conv=>whnf
    refine⟨hsz,?_⟩
    conv=>whnf
    exact hsh
   ·conv=>whnf
    refine⟨?_,trivial⟩
    conv=>whnf
    refine mcall (T:=TM radM) (φ:=[]) (gf:=false) cN ?_
    conv=>whnf
    refine⟨hsz,?_⟩
    conv=>whnf
    exact hsh
  conv=>whnf
  refine mcall (T:=TM radM) (φ:=[]) (gf:=false) rdq_good ?_
  conv=>whnf
  rintro(_|_) hf3
  ·have hf3:¬s3.fl<0:=by simpa using hf3
   rw[if_neg (fun h=>hf3 h.1),if_neg hf3] at hX
   repeat((conv=>whnf);first|refine known true rfl ?_|refine known false rfl ?_)
   conv=>whnf
   refine mcall (T:=TM radM) (φ:=[]) (gf:=false) rdq_good ?_
   conv=>whnf
   refine known false (by simp;omega) ?_
   conv=>whnf
   refine⟨(ps++[pn],s3),⟨g',by unfold RdIn;omega,by simp;omega,fun h=>absurd h hf3,hX⟩,?_,?_⟩
   ·dsimp only
    rw[if_neg hf3,if_pos hf]
    omega
   refine⟨rfl,?_,?_⟩<;>repeat' (first|exact trivial|exact rfl|(rw[List.map_append];exact rfl)|refine and_rfl ?_|refine and_two ?_ ?_)
  have hf3:s3.fl<0:=by simpa using hf3
  conv=>whnf
  refine mcall (T:=TM radM) (φ:=[]) (gf:=false) (rdq_sym sRP hl) ?_
  rcases cE:isSym sRP (l.drop s3.k) with _|_
  rotate_left
  ·rw[if_pos ⟨hf3,cE⟩] at hX
   subst hX
   dsimp only[rAdv] at hR
   rw[if_pos hf3] at hR
   have hlt3:=tk_lt cE
   have hw:IntKind.i64.wrap (((s3.k:Nat):Int)+1)=((s3.k+1:Nat):Int):=wrap_succ (by omega)
   have cB:=hB ⟨s3.k+1,s3.ns,s3.fl⟩ (by(try dsimp only);omega) hlt3 (by(try dsimp only);omega) (by(try dsimp only);omega)
   subst hR
   conv=>whnf
   refine known true rfl ?_
   conv=>whnf
   rw[hw]
   conv=>whnf
   refine mcall (T:=TM radM) (φ:=[]) (gf:=false) (rdq_good (s:=⟨s3.k+1,s3.ns,s3.fl⟩)) ?_
   conv=>whnf
   refine known true (by simp;omega) ?_
   conv=>whnf
   refine mcall (T:=TM radM) (φ:=[]) (gf:=false) cB ?_
   conv=>whnf
   exact⟨rfl,rfl,by rw[rfcV,List.map_append];rfl⟩
  rw[if_neg (fun h=>by rw[cE] at h;exact absurd h.2 (by decide)),if_pos hf3] at hX
  have ht:=rTake_num (e:=e) ho (s:=s3) sCm (by omega) (by omega)
  have cT:=rdq_take (e:=e) (s:=s3) sCm hl (by omega)
  generalize rTake l e sCm s3=s4 at ht cT hX
  conv=>whnf
  refine known false rfl ?_
  conv=>whnf
  refine mcall (T:=TM radM) (φ:=[]) (gf:=false) rdq_good ?_
  conv=>whnf
  refine known true (by simp;omega) ?_
  conv=>whnf
  refine mcall (T:=TM radM) (φ:=[]) (gf:=false) cT ?_
  conv=>whnf
  refine⟨(ps++[pn],s4),⟨g',by unfold RdIn;omega,by simp;omega,fun h=>⟨by simp;omega,by(try dsimp only);omega⟩,hX⟩,?_,?_⟩
  ·dsimp only
   rw[if_pos hf]
   split<;>omega
  refine⟨rfl,?_,?_⟩<;>repeat' (first|exact trivial|exact rfl|(rw[List.map_append];exact rfl)|refine and_rfl ?_|refine and_two ?_ ?_)
end
end Go.Proofs.YtglndfgmlminpaaGreatDoor
namespace Go.Proofs.YtglndfgmlminpaaGreatDoor
open Go.RowKit
section
variable {l:List Tok} {e:Int} {f:Nat}
theorem rdq_unary {E:RdF Int} {P:Pars} (ho:∀k,0≤offT e (l.drop k)) (hE:GoodR l 0 f E P) (hA:AtP e P) (hC:EatsP P) (hP:RC 260 (postG l e E) l e (f+1)) (hl:l.length≤1000000):∀(d:Nat) (s:Rs),s.fl= -1→s.k≤l.length→l.length<s.k+(f+1)→s.ns.length+2*(l.length - s.k)≤2000000→l.length≤s.k+d→
  MCalls Tryz.prog 256 [.bx 0 0] (rM l e s) (int (unaryR l e E d s).1) (rM l e (unaryR l e E d s).2):=by
 have hno:∀(s:Rs) (d:Nat),isSym sMi (l.drop s.k)=false→unaryR l e E d s=postG l e E s:=fun s d h=>by
  cases d with
  |zero=>rfl
  |succ d=>unfold unaryR;rw[h];rfl
 intro d
 induction d with
 |zero=>
  intro s h1 h2 h3 h4 h5
  have h:isSym sMi (l.drop s.k)=false:=by rw[List.drop_eq_nil_of_le (by omega)];rfl
  rw[hno s 0 h]
  refine rcx Tryz.func256 (by kernel_rfl) (by kernel_rfl) ?_
  conv=>whnf
  refine mcall (T:=TM radM) (φ:=[]) (gf:=false) (rdq_sym sMi hl) ?_
  rw[h]
  conv=>whnf
  refine known true rfl ?_
  conv=>whnf
  refine mcall (T:=TM radM) (φ:=[]) (gf:=false) (hP s h1 h2 h3 h4) ?_
  conv=>whnf
  exact⟨rfl,rfl,rfl⟩
 |succ d ih=>
  intro s h1 h2 h3 h4 h5
  cases h:isSym sMi (l.drop s.k) with
  |false=>
   rw[hno s (d+1) h]
   refine rcx Tryz.func256 (by kernel_rfl) (by kernel_rfl) ?_
   conv=>whnf
   refine mcall (T:=TM radM) (φ:=[]) (gf:=false) (rdq_sym sMi hl) ?_
   rw[h]
   conv=>whnf
   refine known true rfl ?_
   conv=>whnf
   refine mcall (T:=TM radM) (φ:=[]) (gf:=false) (hP s h1 h2 h3 h4) ?_
   conv=>whnf
   exact⟨rfl,rfl,rfl⟩
  |true=>
   have hk:=tk_lt h
   have hw:IntKind.i64.wrap (((s.k:Nat):Int)+1)=((s.k+1:Nat):Int):=wrap_succ (by omega)
   have hn:=(unary_fin ho hE hA hC d (s.k+1) s.ns hk (by omega) (by omega)).num
   rw[show(⟨s.k+1,s.ns,-1⟩:Rs)=rAdv s by rw[rAdv,h1]] at hn
   dsimp only[rAdv] at hn
   have c:=ih (rAdv s) h1 hk (by(try dsimp only);omega) (by(try dsimp only);omega) (by(try dsimp only);omega)
   rw[show unaryR l e E (d+1) s=rAdd (ndM 8 sMi 0 [(unaryR l e E d (rAdv s)).1]) (unaryR l e E d (rAdv s)).2 by rw[unaryR];exact if_pos h]
   refine rcx Tryz.func256 (by kernel_rfl) (by kernel_rfl) ?_
   conv=>whnf
   refine mcall (T:=TM radM) (φ:=[]) (gf:=false) (rdq_sym sMi hl) ?_
   rw[h]
   conv=>whnf
   refine known false rfl ?_
   conv=>whnf
   rw[hw]
   conv=>whnf
   refine mcall (T:=TM radM) (φ:=[]) (gf:=false) c ?_
   conv=>whnf
   refine mcall (T:=TM radM) (φ:=[]) (gf:=false) (rdq_add (e:=e) (s:=(unaryR l e E d (rAdv s)).2) (ndM 8 sMi 0 [(unaryR l e E d (rAdv s)).1]) (by dsimp only[rAdv];omega)) ?_
   conv=>whnf
   exact⟨rfl,rfl,rfl⟩
theorem rdq_not {E:RdF Int} {P:Pars} (ho:∀k,0≤offT e (l.drop k)) (hE:GoodR l 0 f E P) (hA:AtP e P) (hC:EatsP P) (hP:RC 219 (cmpG l e E) l e (f+1)) (hl:l.length≤1000000):∀(d:Nat) (s:Rs),s.fl= -1→s.k≤l.length→l.length<s.k+(f+1)→s.ns.length+2*(l.length - s.k)≤2000000→l.length≤s.k+d→
  MCalls Tryz.prog 202 [.bx 0 0] (rM l e s) (int (notR l e E d s).1) (rM l e (notR l e E d s).2):=by
 have hno:∀(s:Rs) (d:Nat),isWrd wNot (l.drop s.k)=false→notR l e E d s=cmpG l e E s:=fun s d h=>by
  cases d with
  |zero=>rfl
  |succ d=>unfold notR;rw[h];rfl
 intro d
 induction d with
 |zero=>
  intro s h1 h2 h3 h4 h5
  have h:isWrd wNot (l.drop s.k)=false:=by rw[List.drop_eq_nil_of_le (by omega)];rfl
  rw[hno s 0 h]
  refine rcx Tryz.func202 (by kernel_rfl) (by kernel_rfl) ?_
  conv=>whnf
  refine mcall (T:=TM radM) (φ:=[]) (gf:=false) (rdq_word wNot hl) ?_
  rw[h]
  conv=>whnf
  refine known true rfl ?_
  conv=>whnf
  refine mcall (T:=TM radM) (φ:=[]) (gf:=false) (hP s h1 h2 h3 h4) ?_
  conv=>whnf
  exact⟨rfl,rfl,rfl⟩
 |succ d ih=>
  intro s h1 h2 h3 h4 h5
  cases h:isWrd wNot (l.drop s.k) with
  |false=>
   rw[hno s (d+1) h]
   refine rcx Tryz.func202 (by kernel_rfl) (by kernel_rfl) ?_
   conv=>whnf
   refine mcall (T:=TM radM) (φ:=[]) (gf:=false) (rdq_word wNot hl) ?_
   rw[h]
   conv=>whnf
   refine known true rfl ?_
   conv=>whnf
   refine mcall (T:=TM radM) (φ:=[]) (gf:=false) (hP s h1 h2 h3 h4) ?_
   conv=>whnf
   exact⟨rfl,rfl,rfl⟩
  |true=>
   have hk:=tk_lt h
   have hw:IntKind.i64.wrap (((s.k:Nat):Int)+1)=((s.k+1:Nat):Int):=wrap_succ (by omega)
   have hn:=(not_fin ho hE hA hC d (s.k+1) s.ns hk (by omega) (by omega)).num
   rw[show(⟨s.k+1,s.ns,-1⟩:Rs)=rAdv s by rw[rAdv,h1]] at hn
   dsimp only[rAdv] at hn
   have c:=ih (rAdv s) h1 hk (by(try dsimp only);omega) (by(try dsimp only);omega) (by(try dsimp only);omega)
   rw[show notR l e E (d+1) s=rAdd (ndM 8 wNot 0 [(notR l e E d (rAdv s)).1]) (notR l e E d (rAdv s)).2 by rw[notR];exact if_pos h]
   refine rcx Tryz.func202 (by kernel_rfl) (by kernel_rfl) ?_
   conv=>whnf
   refine mcall (T:=TM radM) (φ:=[]) (gf:=false) (rdq_word wNot hl) ?_
   rw[h]
   conv=>whnf
   refine known false rfl ?_
   conv=>whnf
   rw[hw]
   conv=>whnf
   refine mcall (T:=TM radM) (φ:=[]) (gf:=false) c ?_
   conv=>whnf
   refine mcall (T:=TM radM) (φ:=[]) (gf:=false) (rdq_add (e:=e) (s:=(notR l e E d (rAdv s)).2) (ndM 8 wNot 0 [(notR l e E d (rAdv s)).1]) (by dsimp only[rAdv];omega)) ?_
   conv=>whnf
   exact⟨rfl,rfl,rfl⟩
theorem rdq_cmp {E:RdF Int} {P:Pars} (hO:RC 238 (sumG l e E) l e f) (hG:GoodR l 0 f (sumG l e E) P) (hl:l.length≤1000000):RC 219 (cmpG l e E) l e f:=by
 intro s h1 h2 h3 h4
 have c:=hO s h1 h2 h3 h4
 have hn:=hG.num h1 h2 h3
 generalize hR:cmpG l e E s=R
 unfold cmpG at hR
 try dsimp only at hR
 generalize sumG l e E s=x0 at c hn hR
 obtain⟨i0,s0⟩:=x0
 dsimp only at c hn hR
 refine rcx Tryz.func219 (by kernel_rfl) (by kernel_rfl) ?_
 conv=>whnf
 refine mcall (T:=TM radM) (φ:=[]) (gf:=false) c ?_
 clear c
 conv=>whnf
 refine mcall (T:=TM radM) (φ:=[]) (gf:=false) rdq_good ?_
 conv=>whnf
 rintro(_|_) hf
 ·have hf:¬s0.fl<0:=by simpa using hf
  rw[if_neg (fun h=>hf h.1)] at hR
  subst hR
  repeat((conv=>whnf);first|refine known true rfl ?_|refine known false rfl ?_)
  conv=>whnf
  exact⟨rfl,rfl,rfl⟩
 have hf:s0.fl<0:=by simpa using hf
 conv=>whnf
 refine mcall (T:=TM radM) (φ:=[]) (gf:=false) (rdq_kind hl) ?_
 conv=>whnf
 rintro(_|_) hk5
 ·have hk5:pKind (l.drop s0.k)≠5:=by simpa using hk5
  rw[if_neg (fun h=>hk5 (tst_iff.1 h.2).1)] at hR
  subst hR
  repeat((conv=>whnf);first|refine known true rfl ?_|refine known false rfl ?_)
  conv=>whnf
  exact⟨rfl,rfl,rfl⟩
 have hk5:pKind (l.drop s0.k)=5:=by simpa using hk5
 have hlt:=kind_lt hk5 (by decide)
 conv=>whnf
 refine mcall (T:=TM radM) (φ:=[]) (gf:=false) (rdq_text hl) ?_
 conv=>whnf
 refine⟨_,x_rcompares (pText (l.drop s0.k)),?_⟩
 conv=>whnf
 rintro(_|_) hc
 ·have hc:opCmp.contains (pText (l.drop s0.k))=false:=hc
  rw[if_neg (fun h=>by have:=(tst_iff.1 h.2).2.1;rw[hc] at this;cases this)] at hR
  subst hR
  repeat((conv=>whnf);first|refine known true rfl ?_|refine known false rfl ?_)
  conv=>whnf
  exact⟨rfl,rfl,rfl⟩
 have hc:opCmp.contains (pText (l.drop s0.k))=true:=hc
 rw[if_pos ⟨hf,tst_iff.2 ⟨hk5,hc,drop_ne hlt⟩⟩] at hR
 have hw:IntKind.i64.wrap (((s0.k:Nat):Int)+1)=((s0.k+1:Nat):Int):=wrap_succ (by omega)
 have hn2:=hG.num (s:=rAdv s0) (by(try dsimp only);omega) hlt (by(try dsimp only);omega)
 dsimp only[rAdv] at hn2
 conv=>whnf
 refine mcall (T:=TM radM) (φ:=[]) (gf:=false) (rdq_text hl) ?_
 conv=>whnf
 rw[hw]
 conv=>whnf
 refine mcall (T:=TM radM) (φ:=[]) (gf:=false) (hO (rAdv s0) (by(try dsimp only);omega) hlt (by(try dsimp only);omega) (by(try dsimp only);omega)) ?_
 conv=>whnf
 refine mcall (T:=TM radM) (φ:=[]) (gf:=false) (rdq_add (e:=e) (s:=(sumG l e E (rAdv s0)).2) (ndM 9 (pText (l.drop s0.k)) 0 [i0,(sumG l e E (rAdv s0)).1]) (by dsimp only[rAdv];omega)) ?_
 subst hR
 conv=>whnf
 exact⟨rfl,rfl,rfl⟩
theorem rdq_post {E:RdF Int} {P:Pars} (ho:∀k,0≤offT e (l.drop k)) (hO:RC 266 (primR l e E) l e (f+1)) (hG:GoodR l 0 (f+1) (primR l e E) (primP e P)) (hE:RC 147 E l e f) (hEG:GoodR l 0 f E P) (hl:l.length≤1000000):RC 260 (postG l e E) l e (f+1):=by
 intro s h1 h2 h3 h4
 have c:=hO s h1 h2 h3 h4
 have hI:=hG.rdIn (by omega) h1 h2 h3 h4
 generalize hR:postG l e E s=R
 unfold postG at hR
 generalize primR l e E s=x0 at c hI hR
 obtain⟨i0,s0⟩:=x0
 dsimp only at c hI hR
 clear h1 h2 h3 h4
 refine rcx Tryz.func260 (by kernel_rfl) (by kernel_rfl) ?_
 conv=>whnf
 refine mcall (T:=TM radM) (φ:=[]) (gf:=false) c ?_
 clear c
 conv=>whnf
 refine⟨[],Int×Rs,fun⟨i,_⟩=>[(3,int i)],fun⟨_,s⟩=>[(31,some (rBox l e s 32)),(32,some (rRow s.ns))],
  fun⟨i,s⟩=>∃g,RdIn l (f+1) s∧l.length≤s.k+g∧postR l e E g i s=R,fun⟨_,s⟩=>if s.fl<0 then l.length - s.k+1 else 0,(i0,s0),⟨_,hI,by(try dsimp only);omega,hR⟩,?_,?_⟩
 ·refine⟨rfl,?_,?_⟩<;>repeat' (first|exact trivial|exact rfl|refine and_rfl ?_|refine and_two ?_ ?_)
 clear hI hR
 rintro⟨i,s⟩ ⟨g,hI,hg,hR⟩
 have hend:(s.fl<0→isSym sLB (l.drop s.k)=false)→R=(i,s):=fun h=>by
  rw[←hR]
  cases g with
  |zero=>rfl
  |succ g=>unfold postR;rw[if_neg (fun h1=>by rw[h h1.1] at h1;exact absurd h1.2 (by decide))]
 conv=>whnf
 refine mcall (T:=TM radM) (φ:=[]) (gf:=false) rdq_good ?_
 conv=>whnf
 rintro(_|_) hf
 ·have hf:¬s.fl<0:=by simpa using hf
  have hR:=hend (fun h=>absurd h hf)
  subst hR
  repeat((conv=>whnf);first|refine known true rfl ?_|refine known false rfl ?_)
  conv=>whnf
  exact⟨rfl,rfl,rfl⟩
 have hf:s.fl<0:=by simpa using hf
 conv=>whnf
 refine mcall (T:=TM radM) (φ:=[]) (gf:=false) (rdq_sym sLB hl) ?_
 conv=>whnf
 rintro(_|_) hw1
 ·have hw1:isSym sLB (l.drop s.k)=false:=hw1
  have hR:=hend (fun _=>hw1)
  subst hR
  conv=>whnf
  exact⟨rfl,rfl,rfl⟩
 have hw1:isSym sLB (l.drop s.k)=true:=hw1
 clear hend
 have hlt:=tk_lt hw1
 obtain⟨a1,a2,a3,a4⟩:=hI.fl hf
 have hw:IntKind.i64.wrap (((s.k:Nat):Int)+1)=((s.k+1:Nat):Int):=wrap_succ (by omega)
 have hn:=hEG.num (s:=rAdv s) a1 hlt (by(try dsimp only);omega)
 obtain⟨g',rfl⟩:∃g',g=g'+1:=⟨g - 1,by omega⟩
 unfold postR at hR
 rw[if_pos ⟨hf,hw1⟩] at hR
 try dsimp only at hR
 have cE:=hE (rAdv s) a1 hlt (by(try dsimp only);omega) (by(try dsimp only);omega)
 generalize E (rAdv s)=x1 at hn hR cE
 obtain⟨j,s1⟩:=x1
 try dsimp only[rAdv] at hn
 try dsimp only at hR
 try dsimp only at cE
 have ht:=rTake_num ho (s:=s1) sRB (by omega) (by omega)
 conv=>whnf
 rw[hw]
 conv=>whnf
 refine mcall (T:=TM radM) (φ:=[]) (gf:=false) cE ?_
 conv=>whnf
 refine mcall (T:=TM radM) (φ:=[]) (gf:=false) (rdq_take (e:=e) (s:=s1) sRB hl (by omega)) ?_
 generalize rTake l e sRB s1=s2 at ht hR
 conv=>whnf
 refine mcall (T:=TM radM) (φ:=[]) (gf:=false) (rdq_add (e:=e) (s:=s2) (ndM 10 [] 0 [i,j]) (by omega)) ?_
 conv=>whnf
 refine⟨rAdd (ndM 10 [] 0 [i,j]) s2,⟨g',?_,?_,hR⟩,?_,?_⟩
 ·unfold RdIn
  simp only[List.length_append,List.length_singleton]
  omega
 ·simp only;omega
 ·show(if(rAdd (ndM 10 [] 0 [i,j]) s2).2.fl<0 then l.length - (rAdd (ndM 10 [] 0 [i,j]) s2).2.k+1 else 0)<(if s.fl<0 then l.length - s.k+1 else 0)
  rw[if_pos hf]
  by_cases hq:(rAdd (ndM 10 [] 0 [i,j]) s2).2.fl<0
  ·rw[if_pos hq]
   simp only[rAdd] at hq⊢
   omega
  ·rw[if_neg hq];omega
 refine⟨rfl,?_,?_⟩<;>repeat' (first|exact trivial|exact rfl|refine and_rfl ?_|refine and_two ?_ ?_)
end
end Go.Proofs.YtglndfgmlminpaaGreatDoor
