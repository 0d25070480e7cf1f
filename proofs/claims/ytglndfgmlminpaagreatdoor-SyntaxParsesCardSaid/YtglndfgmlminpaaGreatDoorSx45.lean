/- Texts joined by pack.py: XSyZD -/
import Derived.Test.YtglndfgmlminpaaGreatDoorSx44
import Derived.Test.YtglndfgmlminpaaGreatDoorSx25
set_option maxHeartbeats 4000000
set_option maxRecDepth 100000
namespace Go.Proofs.YtglndfgmlminpaaGreatDoor
open Go.RowKit
section
variable {l:List Tok} {e:Int} {f:Nat}
theorem rdq_list {fin:Bs} {E:RdF Int} {P:Pars} (ho:∀k,0≤offT e (l.drop k)) (hE:RC 147 E l e f) (hG:GoodR l 0 f E P) (hl:l.length≤1000000) (s:Rs) (h1:s.fl= -1) (h2:s.k≤l.length) (h3:l.length<s.k+f) (h4:s.ns.length+2*(l.length - s.k)≤2000000):
  MCalls Tryz.prog 272 [.bx 0 0,bstr fin] (rM l e s) (.sl true 1 ((listG l e fin E s).1.map intD)) (rM l e (listG l e fin E s).2):=by
 generalize hR:listG l e fin E s=R
 unfold listG at hR
 refine rcx Tryz.func272 (by kernel_rfl) (by kernel_rfl) ?_
 conv=>whnf
 refine mcall (T:=TM radM) (φ:=[]) (gf:=false) (rdq_sym fin hl) ?_
 cases h:isSym fin (l.drop s.k) with
 |true=>
  have hlt:=tk_lt h
  have hw:IntKind.i64.wrap (((s.k:Nat):Int)+1)=((s.k+1:Nat):Int):=wrap_succ (by omega)
  rw[if_pos h] at hR
  subst hR
  conv=>whnf
  refine known true rfl ?_
  conv=>whnf
  rw[hw]
  conv=>whnf
  exact⟨rfl,rfl,rfl⟩
 |false=>
  rw[if_neg (by rw[h];simp)] at hR
  conv=>whnf
  refine known false rfl ?_
  conv=>whnf
  refine⟨[],List Int×Rs,fun _=>[(5,.ow 6 0),(6,.un)],fun⟨js,s⟩=>[(45,some (rBox l e s 46)),(46,some (rRow s.ns)),(6,some (.row 0 3 1 true (js.map intD)))],
   fun⟨js,s⟩=>∃g,RdIn l f s∧js.length≤s.k+1∧(s.fl<0→js.length≤s.k∧l.length<s.k+g)∧listR l e fin E g js s=R,fun⟨_,s⟩=>if s.fl<0 then l.length - s.k+1 else 0,([],s),⟨_,.inl ⟨h1,h2,h3,h4⟩,by simp,fun _=>⟨by simp,by(try dsimp only);omega⟩,hR⟩,?_,?_⟩
  ·refine⟨rfl,?_,?_⟩<;>repeat' (first|exact trivial|exact rfl|refine and_rfl ?_|refine and_two ?_ ?_)
  clear hR h h1 h2 h3 h4
  rintro⟨js,s⟩ ⟨g,hI,hj,hg,hR⟩
  have hljs:(js.map intD).length=js.length:=List.length_map _
  conv=>whnf
  refine mcall (T:=TM radM) (φ:=[]) (gf:=false) rdq_good ?_
  conv=>whnf
  rintro(_|_) hf
  ·have hf:¬s.fl<0:=by simpa using hf
   have hR:(js,s)=R:=by
    rw[←hR]
    cases g with
    |zero=>rfl
    |succ g=>unfold listR;rw[if_neg hf]
   subst hR
   conv=>whnf
   exact⟨rfl,rfl,rfl⟩
  have hf:s.fl<0:=by simpa using hf
  obtain⟨a1,a2,a3,a4⟩:=hI.fl hf
  obtain⟨hj2,hg2⟩:=hg hf
  obtain⟨g',rfl⟩:∃g',g=g'+1:=⟨g - 1,by omega⟩
  unfold listR at hR
  rw[if_pos hf] at hR
  have hn:=hG.num a1 a2 a3
  have cE:=hE s a1 a2 a3 a4
  generalize E s=x1 at hn hR cE
  obtain⟨j,s1⟩:=x1
  dsimp only at hn hR cE
  conv=>whnf
  refine mcall (T:=TM radM) (φ:=[]) (gf:=false) cE ?_
  conv=>whnf
  refine⟨by rw[hljs];show(js.length+1)*8≤_;omega,?_⟩
  conv=>whnf
  refine mcall (T:=TM radM) (φ:=[]) (gf:=false) rdq_good ?_
  conv=>whnf
  rintro(_|_) hf1
  ·have hf1:¬s1.fl<0:=by simpa using hf1
   rw[if_neg (fun h=>hf1 h.1),if_neg hf1] at hR
   repeat((conv=>whnf);first|refine known true rfl ?_|refine known false rfl ?_)
   conv=>whnf
   refine mcall (T:=TM radM) (φ:=[]) (gf:=false) rdq_good ?_
   conv=>whnf
   refine known false (by simp;omega) ?_
   conv=>whnf
   refine⟨(js++[j],s1),⟨g',.inr ⟨by omega,by omega,by omega⟩,by simp;omega,fun h=>absurd h hf1,hR⟩,?_,?_⟩
   ·dsimp only
    rw[if_neg hf1,if_pos hf]
    omega
   refine⟨rfl,?_,?_⟩<;>repeat' (first|exact trivial|exact rfl|(rw[List.map_append];exact rfl)|refine and_rfl ?_|refine and_two ?_ ?_)
  have hf1:s1.fl<0:=by simpa using hf1
  conv=>whnf
  refine mcall (T:=TM radM) (φ:=[]) (gf:=false) (rdq_sym fin hl) ?_
  conv=>whnf
  rintro(_|_) hw1
  rotate_left
  ·have hw1:isSym fin (l.drop s1.k)=true:=hw1
   have hlt:=tk_lt hw1
   have hw:IntKind.i64.wrap (((s1.k:Nat):Int)+1)=((s1.k+1:Nat):Int):=wrap_succ (by omega)
   rw[if_pos ⟨hf1,hw1⟩] at hR
   subst hR
   conv=>whnf
   rw[hw]
   conv=>whnf
   exact⟨rfl,rfl,by rw[List.map_append];rfl⟩
  have hw1:isSym fin (l.drop s1.k)=false:=hw1
  rw[if_neg (fun h=>by rw[hw1] at h;exact absurd h.2 (by decide)),if_pos hf1] at hR
  have ht:=rTake_num ho (s:=s1) sCm (by omega) (by omega)
  conv=>whnf
  refine mcall (T:=TM radM) (φ:=[]) (gf:=false) rdq_good ?_
  conv=>whnf
  refine known true (by simp;omega) ?_
  conv=>whnf
  refine mcall (T:=TM radM) (φ:=[]) (gf:=false) (rdq_take (e:=e) (s:=s1) sCm hl (by omega)) ?_
  generalize rTake l e sCm s1=s2 at ht hR
  conv=>whnf
  refine⟨(js++[j],s2),⟨g',?_,by simp;omega,fun h=>⟨by simp;omega,by(try dsimp only);omega⟩,hR⟩,?_,?_⟩
  ·unfold RdIn;omega
  ·dsimp only
   rw[if_pos hf]
   split<;>omega
  refine⟨rfl,?_,?_⟩<;>repeat' (first|exact trivial|exact rfl|(rw[List.map_append];exact rfl)|refine and_rfl ?_|refine and_two ?_ ?_)
end
end Go.Proofs.YtglndfgmlminpaaGreatDoor
