/- Texts joined by pack.py: XSyZE -/
import Derived.Test.YtglndfgmlminpaaGreatDoorSx45
import Derived.Test.YtglndfgmlminpaaGreatDoorSx29
set_option maxHeartbeats 16000000
set_option maxRecDepth 100000
namespace Go.Proofs.YtglndfgmlminpaaGreatDoor
open Go.RowKit
theorem shareE {A:Prop} (E:Prop) (f:E→A) (e:E):A:=f e
def planT6:Plan:= .one 0 (.one 1 (.one 2 (.one 3 (.one 4 (.one 5 (.one 6 (.one 7 (.one 8 (.one 9 (.alt 10 (.one 11 (.one 12 (.one 13 (.one 14 (.one 15 (.one 16 (.one 17 (.one 18 (.one 19 (.one 20 (.one 21 .done))))))))))) (.alt 11 (.alt 10 (.one 12 (.one 13 (.one 14 (.one 15 (.one 16 (.one 17 (.one 18 (.one 19 (.one 20 (.one 21 .done)))))))))) (.alt 12 (.alt 10 (.one 13 (.one 14 (.one 15 (.one 16 (.one 17 (.one 18 (.one 19 (.one 20 (.one 21 .done))))))))) (.alt 13 (.alt 10 (.one 14 (.one 15 (.one 16 (.one 17 (.one 18 (.one 19 (.one 20 (.one 21 .done)))))))) (.alt 14 (.alt 10 (.one 15 (.one 16 (.one 17 (.one 18 (.one 19 (.one 20 (.one 21 .done))))))) (.alt 15 (.one 16 (.alt 10 (.one 17 (.one 18 (.one 19 (.one 20 (.one 21 .done))))) (.alt 17 (.alt 10 (.one 18 (.one 19 (.one 20 (.one 21 .done)))) (.alt 18 (.one 10 (.one 19 (.one 20 (.one 21 .done)))) .stop)) .stop))) .stop)) .stop)) .stop)) (.alt 13 (.alt 10 (.one 12 (.one 14 (.one 15 (.one 16 (.one 17 (.one 18 (.one 19 (.one 20 (.one 21 .done))))))))) (.alt 12 (.alt 10 (.one 14 (.one 15 (.one 16 (.one 17 (.one 18 (.one 19 (.one 20 (.one 21 .done)))))))) (.alt 14 (.alt 10 (.one 15 (.one 16 (.one 17 (.one 18 (.one 19 (.one 20 (.one 21 .done))))))) (.alt 15 (.one 16 (.alt 10 (.one 17 (.one 18 (.one 19 (.one 20 (.one 21 .done))))) (.alt 17 (.alt 10 (.one 18 (.one 19 (.one 20 (.one 21 .done)))) (.alt 18 (.one 10 (.one 19 (.one 20 (.one 21 .done)))) .stop)) .stop))) .stop)) .stop)) (.alt 14 (.alt 10 (.one 12 (.one 15 (.one 16 (.one 17 (.one 18 (.one 19 (.one 20 (.one 21 .done)))))))) (.alt 12 (.alt 10 (.one 15 (.one 16 (.one 17 (.one 18 (.one 19 (.one 20 (.one 21 .done))))))) (.alt 15 (.one 16 (.alt 10 (.one 17 (.one 18 (.one 19 (.one 20 (.one 21 .done))))) (.alt 17 (.alt 10 (.one 18 (.one 19 (.one 20 (.one 21 .done)))) (.alt 18 (.one 10 (.one 19 (.one 20 (.one 21 .done)))) .stop)) .stop))) .stop)) (.alt 15 (.one 16 (.alt 10 (.one 12 (.one 17 (.one 18 (.one 19 (.one 20 (.one 21 .done)))))) (.alt 12 (.alt 10 (.one 17 (.one 18 (.one 19 (.one 20 (.one 21 .done))))) (.alt 17 (.alt 10 (.one 18 (.one 19 (.one 20 (.one 21 .done)))) (.alt 18 (.one 10 (.one 19 (.one 20 (.one 21 .done)))) .stop)) .stop)) .stop))) .stop))) .stop))) .stop))) (.alt 13 (.alt 10 (.one 11 (.one 12 (.one 14 (.one 15 (.one 16 (.one 17 (.one 18 (.one 19 (.one 20 (.one 21 .done)))))))))) (.alt 11 (.alt 10 (.one 12 (.one 14 (.one 15 (.one 16 (.one 17 (.one 18 (.one 19 (.one 20 (.one 21 .done))))))))) (.alt 12 (.alt 10 (.one 14 (.one 15 (.one 16 (.one 17 (.one 18 (.one 19 (.one 20 (.one 21 .done)))))))) (.alt 14 (.alt 10 (.one 15 (.one 16 (.one 17 (.one 18 (.one 19 (.one 20 (.one 21 .done))))))) (.alt 15 (.one 16 (.alt 10 (.one 17 (.one 18 (.one 19 (.one 20 (.one 21 .done))))) (.alt 17 (.alt 10 (.one 18 (.one 19 (.one 20 (.one 21 .done)))) (.alt 18 (.one 10 (.one 19 (.one 20 (.one 21 .done)))) .stop)) .stop))) .stop)) .stop)) (.alt 14 (.alt 10 (.one 12 (.one 15 (.one 16 (.one 17 (.one 18 (.one 19 (.one 20 (.one 21 .done)))))))) (.alt 12 (.alt 10 (.one 15 (.one 16 (.one 17 (.one 18 (.one 19 (.one 20 (.one 21 .done))))))) (.alt 15 (.one 16 (.alt 10 (.one 17 (.one 18 (.one 19 (.one 20 (.one 21 .done))))) (.alt 17 (.alt 10 (.one 18 (.one 19 (.one 20 (.one 21 .done)))) (.alt 18 (.one 10 (.one 19 (.one 20 (.one 21 .done)))) .stop)) .stop))) .stop)) (.alt 15 (.one 16 (.alt 10 (.one 12 (.one 17 (.one 18 (.one 19 (.one 20 (.one 21 .done)))))) (.alt 12 (.alt 10 (.one 17 (.one 18 (.one 19 (.one 20 (.one 21 .done))))) (.alt 17 (.alt 10 (.one 18 (.one 19 (.one 20 (.one 21 .done)))) (.alt 18 (.one 10 (.one 19 (.one 20 (.one 21 .done)))) .stop)) .stop)) .stop))) .stop))) .stop))) (.alt 14 (.alt 10 (.one 11 (.one 12 (.one 15 (.one 16 (.one 17 (.one 18 (.one 19 (.one 20 (.one 21 .done))))))))) (.alt 11 (.alt 10 (.one 12 (.one 15 (.one 16 (.one 17 (.one 18 (.one 19 (.one 20 (.one 21 .done)))))))) (.alt 12 (.alt 10 (.one 15 (.one 16 (.one 17 (.one 18 (.one 19 (.one 20 (.one 21 .done))))))) (.alt 15 (.one 16 (.alt 10 (.one 17 (.one 18 (.one 19 (.one 20 (.one 21 .done))))) (.alt 17 (.alt 10 (.one 18 (.one 19 (.one 20 (.one 21 .done)))) (.alt 18 (.one 10 (.one 19 (.one 20 (.one 21 .done)))) .stop)) .stop))) .stop)) (.alt 15 (.one 16 (.alt 10 (.one 12 (.one 17 (.one 18 (.one 19 (.one 20 (.one 21 .done)))))) (.alt 12 (.alt 10 (.one 17 (.one 18 (.one 19 (.one 20 (.one 21 .done))))) (.alt 17 (.alt 10 (.one 18 (.one 19 (.one 20 (.one 21 .done)))) (.alt 18 (.one 10 (.one 19 (.one 20 (.one 21 .done)))) .stop)) .stop)) .stop))) .stop))) (.alt 15 (.one 16 (.alt 10 (.one 11 (.one 12 (.one 17 (.one 18 (.one 19 (.one 20 (.one 21 .done))))))) (.alt 11 (.alt 10 (.one 12 (.one 17 (.one 18 (.one 19 (.one 20 (.one 21 .done)))))) (.alt 12 (.alt 10 (.one 17 (.one 18 (.one 19 (.one 20 (.one 21 .done))))) (.alt 17 (.alt 10 (.one 18 (.one 19 (.one 20 (.one 21 .done)))) (.alt 18 (.one 10 (.one 19 (.one 20 (.one 21 .done)))) .stop)) .stop)) .stop)) .stop))) .stop))) .stop))) .stop))))))))))))
def planT9:Plan:= .one 2 (.pull 0 (.alt 1 (.one 3 (.one 4 (.one 5 (.one 6 (.one 7 .done))))) (.alt 3 (.one 1 (.one 4 (.one 5 (.one 6 (.one 7 .done))))) .stop)))
section
variable {l:List Tok} {e:Int} {f:Nat}
theorem rdq_table {E:RdF Int} {P:Pars} (ho:∀k,0≤offT e (l.drop k)) (hE:RC 147 E l e f) (hG:GoodR l 0 f E P) (hl:l.length≤1000000):RC 273 (keyG l e E) l e f:=by
 intro s h1 h2 h3 h4
 generalize hR:keyG l e E s=R
 unfold keyG at hR
 refine rcx Tryz.func273 (by kernel_rfl) (by kernel_rfl) ?_
 conv=>whnf
 refine mcall (T:=TM radM) (φ:=[]) (gf:=false) (rdq_sym sRC hl) ?_
 cases h:isSym sRC (l.drop s.k) with
 |true=>
  have hlt:=tk_lt h
  have hw:IntKind.i64.wrap (((s.k:Nat):Int)+1)=((s.k+1:Nat):Int):=wrap_succ (by omega)
  rw[if_pos h] at hR
  subst hR
  conv=>whnf
  refine known true rfl ?_
  conv=>whnf
  rw[hw]
  conv=>whnf
  refine mcall (T:=TM radM) (φ:=[]) (gf:=false) (rdq_add (e:=e) (s:=rAdv s) ⟨7,[],0,[],[]⟩ (by(try dsimp only);omega)) ?_
  conv=>whnf
  exact⟨rfl,rfl,rfl⟩
 |false=>
  rw[if_neg (by rw[h];simp)] at hR
  conv=>whnf
  refine known false rfl ?_
  conv=>whnf
  refine⟨[(1003003,104,9,1),(1003004,105,3,1)],List Bs×List Int×Rs,fun _=>[],fun⟨ks,js,s⟩=>[(88,some (rBox l e s 89)),(89,some (rRow s.ns)),(104,some (.row 0 9 1 true (ks.map strD))),(105,some (.row 0 3 1 true (js.map intD)))],
   fun⟨ks,js,s⟩=>∃g,RdIn l f s∧ks.length≤s.k+1∧js.length≤s.k+1∧(s.fl<0→ks.length≤s.k∧js.length≤s.k∧l.length<s.k+g)∧keyR l e E g ks js s=R,fun⟨_,_,s⟩=>if s.fl<0 then l.length - s.k+1 else 0,([],[],s),⟨_,.inl ⟨h1,h2,h3,h4⟩,by simp,by simp,fun _=>⟨by simp,by simp,by(try dsimp only);omega⟩,hR⟩,?_,?_⟩
  ·refine⟨rfl,?_,?_⟩<;>repeat' (first|exact trivial|exact rfl|refine and_rfl ?_|refine and_two ?_ ?_)
  clear hR h h1 h2 h3 h4
  rintro⟨ks,js,s⟩ ⟨g,hI,hjk,hjj,hg,hR⟩
  have hlks:(ks.map strD).length=ks.length:=List.length_map _
  have hljs:(js.map intD).length=js.length:=List.length_map _
  conv=>whnf
  refine mcall (T:=TM radM) (φ:=[]) (gf:=false) rdq_good ?_
  conv=>whnf
  rintro(_|_) hf
  ·have hf:¬s.fl<0:=by simpa using hf
   have hR:(0,s)=R:=by
    rw[←hR]
    cases g with
    |zero=>rfl
    |succ g=>unfold keyR;rw[if_neg hf]
   subst hR
   conv=>whnf
   exact⟨rfl,rfl,rfl⟩
  have hf:s.fl<0:=by simpa using hf
  obtain⟨a1,a2,a3,a4⟩:=hI.fl hf
  obtain⟨hj1,hj2,hg2⟩:=hg hf
  obtain⟨g',rfl⟩:∃g',g=g'+1:=⟨g - 1,by omega⟩
  unfold keyR at hR
  rw[if_pos hf] at hR
  have hw:IntKind.i64.wrap (((s.k:Nat):Int)+1)=((s.k+1:Nat):Int):=wrap_succ (by omega)
  by_cases hk4:pKind (l.drop s.k)=4
  rotate_left
  ·rw[if_neg (fun h=>hk4 h.1)] at hR
   subst hR
   refine shareE ?_ (fun hsh=>?_) ?_
   rotate_left
   ·conv=>whnf
    refine⟨some planT6,by kernel_rfl,?_⟩
    conv=>whnf
    refine mcall (T:=TM radM) (φ:=[]) (gf:=false) (rdq_kind hl) ?_
    conv=>whnf
    refine known true (by simpa using hk4) ?_
    conv=>whnf
    refine And.intro ?_ ?_
    ·conv=>whnf
     exact hsh
    all_goals repeat' ((conv=>whnf);first|exact hsh|exact trivial|refine And.intro ?_ ?_)
   conv=>whnf
   refine mcall (T:=TM radM) (φ:=[]) (gf:=false) (rdq_bad hl) ?_
   conv=>whnf
   exact⟨rfl,rfl,rfl⟩
  have hlt:=kind_lt hk4 (by decide)
  have hszk:((ks.map strD).length+1)*16≤140737488355328:=by rw[hlks];omega
  have hszj:((js.map intD).length+1)*8≤140737488355328:=by rw[hljs];omega
  have hpos:ks≠[]→0<ks.length:=List.length_pos_iff.2
  rcases Decidable.em (ks=[]) with h0|h0
  ·have hlen:decide ((((ks.map strD).length:Nat):Int)>0)=false:=by rw[h0];rfl
   refine shareE ?_ (fun hsh=>?_) ?_
   rotate_left
   ·conv=>whnf
    refine⟨some planT6,by kernel_rfl,?_⟩
    conv=>whnf
    refine mcall (T:=TM radM) (φ:=[]) (gf:=false) (rdq_kind hl) ?_
    conv=>whnf
    refine known false (by simpa using hk4) ?_
    conv=>whnf
    refine known false hlen ?_
    conv=>whnf
    refine And.intro ?_ ?_
    ·conv=>whnf
     exact hsh
    all_goals repeat' ((conv=>whnf);first|exact hsh|exact trivial|refine And.intro ?_ ?_)
   conv=>whnf
   rw[if_pos ⟨hk4,.inl h0⟩] at hR
   have ht:=rTake_num ho (s:=rAdv s) sCl hlt (.inl a1)
   dsimp only[rAdv] at ht
   refine shareE ?_ (fun hsh=>?_) ?_
   rotate_left
   ·conv=>whnf
    refine⟨some planT9,by kernel_rfl,?_⟩
    conv=>whnf
    refine⟨.bx 3 3,fun m2 K2 hK=>hK,?_⟩
    conv=>whnf
    refine And.intro ?_ ?_
    ·conv=>whnf
     refine mcall (T:=TM radM) (φ:=[]) (gf:=false) (rdq_text hl) ?_
     conv=>whnf
     refine⟨hszk,?_⟩
     conv=>whnf
     exact hsh
    ·conv=>whnf
     refine⟨?_,trivial⟩
     conv=>whnf
     refine mcall (T:=TM radM) (φ:=[]) (gf:=false) (rdq_text hl) ?_
     conv=>whnf
     refine⟨hszk,?_⟩
     conv=>whnf
     exact hsh
   conv=>whnf
   rw[hw]
   conv=>whnf
   refine mcall (T:=TM radM) (φ:=[]) (gf:=false) (rdq_take (e:=e) (s:=rAdv s) sCl hl hlt) ?_
   generalize rTake l e sCl (rAdv s)=s1 at ht hR
   conv=>whnf
   refine mcall (T:=TM radM) (φ:=[]) (gf:=false) rdq_good ?_
   unfold keyV at hR
   conv=>whnf
   rintro(_|_) hf1
   ·have hf1:¬s1.fl<0:=by simpa using hf1
    rw[if_neg hf1] at hR
    dsimp only at hR
    rw[if_neg (fun h=>hf1 h.1),if_neg hf1] at hR
    conv=>whnf
    conv=>whnf
    refine mcall (T:=TM radM) (φ:=[]) (gf:=false) rdq_good ?_
    conv=>whnf
    refine known false (by simp;omega) ?_
    repeat((conv=>whnf);first|refine known true rfl ?_|refine known false rfl ?_)
    conv=>whnf
    refine mcall (T:=TM radM) (φ:=[]) (gf:=false) rdq_good ?_
    conv=>whnf
    refine known false (by simp;omega) ?_
    conv=>whnf
    refine⟨(ks++[pText (l.drop s.k)],js,s1),⟨g',.inr ⟨by omega,by omega,by omega⟩,by simp;omega,by omega,fun h=>absurd h hf1,hR⟩,?_,?_⟩
    ·dsimp only
     rw[if_neg hf1,if_pos hf]
     omega
    refine⟨rfl,?_,?_⟩<;>repeat' (first|exact trivial|exact rfl|(rw[List.map_append];exact rfl)|refine and_rfl ?_|refine and_two ?_ ?_)
   have hf1:s1.fl<0:=by simpa using hf1
   rw[if_pos hf1] at hR
   dsimp only at hR
   have hn:=hG.num (s:=s1) (by omega) (by omega) (by omega)
   have cE:=hE s1 (by omega) (by omega) (by omega) (by omega)
   generalize E s1=x1 at hn hR cE
   obtain⟨j,s2⟩:=x1
   dsimp only at hn hR cE
   refine shareE ?_ (fun hsh=>?_) ?_
   rotate_left
   ·conv=>whnf
    refine⟨some planT9,by kernel_rfl,?_⟩
    conv=>whnf
    refine⟨.bx 3 4,fun m2 K2 hK=>hK,?_⟩
    conv=>whnf
    refine And.intro ?_ ?_
    ·conv=>whnf
     refine mcall (T:=TM radM) (φ:=[]) (gf:=false) cE ?_
     conv=>whnf
     refine⟨hszj,?_⟩
     conv=>whnf
     exact hsh
    ·conv=>whnf
     refine⟨?_,trivial⟩
     conv=>whnf
     refine mcall (T:=TM radM) (φ:=[]) (gf:=false) cE ?_
     conv=>whnf
     refine⟨hszj,?_⟩
     conv=>whnf
     exact hsh
   conv=>whnf
   refine mcall (T:=TM radM) (φ:=[]) (gf:=false) rdq_good ?_
   conv=>whnf
   rintro(_|_) hf2
   ·have hf2:¬s2.fl<0:=by simpa using hf2
    rw[if_neg (fun h=>hf2 h.1),if_neg hf2] at hR
    repeat((conv=>whnf);first|refine known true rfl ?_|refine known false rfl ?_)
    conv=>whnf
    refine mcall (T:=TM radM) (φ:=[]) (gf:=false) rdq_good ?_
    conv=>whnf
    refine known false (by simp;omega) ?_
    conv=>whnf
    refine⟨(ks++[pText (l.drop s.k)],js++[j],s2),⟨g',.inr ⟨by omega,by omega,by omega⟩,by simp;omega,by simp;omega,fun h=>absurd h hf2,hR⟩,?_,?_⟩
    ·dsimp only
     rw[if_neg hf2,if_pos hf]
     omega
    refine⟨rfl,?_,?_⟩<;>repeat' (first|exact trivial|exact rfl|(rw[List.map_append];exact rfl)|refine and_rfl ?_|refine and_two ?_ ?_)
   have hf2:s2.fl<0:=by simpa using hf2
   conv=>whnf
   refine mcall (T:=TM radM) (φ:=[]) (gf:=false) (rdq_sym sRC hl) ?_
   conv=>whnf
   rintro(_|_) hw1
   rotate_left
   ·have hw1:isSym sRC (l.drop s2.k)=true:=hw1
    have hlt2:=tk_lt hw1
    have hw2:IntKind.i64.wrap (((s2.k:Nat):Int)+1)=((s2.k+1:Nat):Int):=wrap_succ (by omega)
    rw[if_pos ⟨hf2,hw1⟩] at hR
    subst hR
    conv=>whnf
    rw[hw2]
    have c:=rdq_add (l:=l) (e:=e) (s:=rAdv s2) ⟨7,[],0,ks++[pText (l.drop s.k)],js++[j]⟩ (by(try dsimp only);omega)
    rw[show rndV ⟨7,[],0,ks++[pText (l.drop s.k)],js++[j]⟩= .ag [int 7,bstr [],int 0,.sl false 1 (ks.map strD++[strD (pText (l.drop s.k))]),.sl false 1 (js.map intD++[intD j])] by simp only[rndV,List.map_append,List.map_cons,List.map_nil]] at c
    conv=>whnf
    refine mcall (T:=TM radM) (φ:=[]) (gf:=false) c ?_
    conv=>whnf
    exact⟨rfl,rfl,rfl⟩
   have hw1:isSym sRC (l.drop s2.k)=false:=hw1
   rw[if_neg (fun h=>by rw[hw1] at h;exact absurd h.2 (by decide)),if_pos hf2] at hR
   have ht2:=rTake_num ho (s:=s2) sCm (by omega) (by omega)
   conv=>whnf
   refine mcall (T:=TM radM) (φ:=[]) (gf:=false) rdq_good ?_
   conv=>whnf
   refine known true (by simp;omega) ?_
   conv=>whnf
   refine mcall (T:=TM radM) (φ:=[]) (gf:=false) (rdq_take (e:=e) (s:=s2) sCm hl (by omega)) ?_
   generalize rTake l e sCm s2=s3 at ht2 hR
   conv=>whnf
   refine⟨(ks++[pText (l.drop s.k)],js++[j],s3),⟨g',?_,by simp;omega,by simp;omega,fun h=>⟨by simp;omega,by simp;omega,by(try dsimp only);omega⟩,hR⟩,?_,?_⟩
   ·unfold RdIn;omega
   ·dsimp only
    rw[if_pos hf]
    split<;>omega
   refine⟨rfl,?_,?_⟩<;>repeat' (first|exact trivial|exact rfl|(rw[List.map_append];exact rfl)|refine and_rfl ?_|refine and_two ?_ ?_)
  have h0p:=hpos h0
  have hwl:IntKind.i64.wrap ((((ks.map strD).length:Nat):Int) - 1)=((ks.length - 1:Nat):Int):=by rw[hlks,wrap_in (by omega)];omega
  have hi0:0≤IntKind.i64.wrap ((((ks.map strD).length:Nat):Int) - 1):=by rw[hwl];omega
  have hi1:(IntKind.i64.wrap ((((ks.map strD).length:Nat):Int) - 1)).toNat<(ks.map strD).length:=by rw[hwl,hlks];omega
  have hget:(ks.map strD)[(IntKind.i64.wrap ((((ks.map strD).length:Nat):Int) - 1)).toNat]?=some (strD (ks.getLastD [])):=by
   rw[hwl,get_map strD (show ks.length - 1<ks.length by omega),List.getLastD_eq_getLast?,List.getLast?_eq_getElem?,List.getElem?_eq_getElem (show ks.length - 1<ks.length by omega)]
   rfl
  have hlen:decide ((((ks.map strD).length:Nat):Int)>0)=true:=by rw[hlks];simpa using h0p
  obtain⟨kl,hkl⟩:∃kl,kl=ks.getLastD []:=⟨_,rfl⟩
  rw[←hkl] at hget hR
  have hcmp:(Op.bytesLess (mk (pText (l.drop s.k))).toList (mk kl).toList||((mk (pText (l.drop s.k))).toList==(mk kl).toList))= !(Op.bytesLess kl (pText (l.drop s.k))):=by rw[mk_toList,mk_toList,bl_not]
  refine shareE ?_ (fun hsh=>?_) ?_
  rotate_left
  ·conv=>whnf
   refine⟨some planT6,by kernel_rfl,?_⟩
   conv=>whnf
   refine mcall (T:=TM radM) (φ:=[]) (gf:=false) (rdq_kind hl) ?_
   conv=>whnf
   refine known false (by simpa using hk4) ?_
   conv=>whnf
   refine known true hlen ?_
   conv=>whnf
   refine shareE ?_ (fun hsh1=>?_) ?_
   rotate_left
   refine And.intro ?_ ?_
   conv=>whnf
   refine mcall (T:=TM radM) (φ:=[]) (gf:=false) (rdq_text hl) ?_
   conv=>whnf
   exact hsh1
   rotate_left
   with_reducible refine⟨hi0,hi1,?_⟩
   conv=>whnf
   with_reducible refine⟨_,hget,?_⟩
   conv=>whnf
   exact hsh
   repeat' ((conv=>whnf);first|exact hsh1|exact hsh|exact trivial|with_reducible refine⟨hi0,hi1,?_⟩|with_reducible refine⟨_,hget,?_⟩|refine mcall (T:=TM radM) (φ:=[]) (gf:=false) (rdq_text hl) ?_|refine And.intro ?_ ?_)
  cases hb:Op.bytesLess kl (pText (l.drop s.k)) with
  |false=>
   rw[if_neg (fun h=>h.2.elim h0 (fun h=>by rw[hb] at h;cases h))] at hR
   subst hR
   conv=>whnf
   refine known true (by rw[hcmp,hb];rfl) ?_
   conv=>whnf
   refine mcall (T:=TM radM) (φ:=[]) (gf:=false) (rdq_bad hl) ?_
   conv=>whnf
   exact⟨rfl,rfl,rfl⟩
  |true=>
   conv=>whnf
   refine known false (by rw[hcmp,hb];rfl) ?_
   rw[if_pos ⟨hk4,.inr hb⟩] at hR
   have ht:=rTake_num ho (s:=rAdv s) sCl hlt (.inl a1)
   dsimp only[rAdv] at ht
   refine shareE ?_ (fun hsh=>?_) ?_
   rotate_left
   ·conv=>whnf
    refine⟨some planT9,by kernel_rfl,?_⟩
    conv=>whnf
    refine⟨.bx 3 3,fun m2 K2 hK=>hK,?_⟩
    conv=>whnf
    refine And.intro ?_ ?_
    ·conv=>whnf
     refine mcall (T:=TM radM) (φ:=[]) (gf:=false) (rdq_text hl) ?_
     conv=>whnf
     refine⟨hszk,?_⟩
     conv=>whnf
     exact hsh
    ·conv=>whnf
     refine⟨?_,trivial⟩
     conv=>whnf
     refine mcall (T:=TM radM) (φ:=[]) (gf:=false) (rdq_text hl) ?_
     conv=>whnf
     refine⟨hszk,?_⟩
     conv=>whnf
     exact hsh
   conv=>whnf
   rw[hw]
   conv=>whnf
   refine mcall (T:=TM radM) (φ:=[]) (gf:=false) (rdq_take (e:=e) (s:=rAdv s) sCl hl hlt) ?_
   generalize rTake l e sCl (rAdv s)=s1 at ht hR
   conv=>whnf
   refine mcall (T:=TM radM) (φ:=[]) (gf:=false) rdq_good ?_
   unfold keyV at hR
   conv=>whnf
   rintro(_|_) hf1
   ·have hf1:¬s1.fl<0:=by simpa using hf1
    rw[if_neg hf1] at hR
    dsimp only at hR
    rw[if_neg (fun h=>hf1 h.1),if_neg hf1] at hR
    conv=>whnf
    conv=>whnf
    refine mcall (T:=TM radM) (φ:=[]) (gf:=false) rdq_good ?_
    conv=>whnf
    refine known false (by simp;omega) ?_
    repeat((conv=>whnf);first|refine known true rfl ?_|refine known false rfl ?_)
    conv=>whnf
    refine mcall (T:=TM radM) (φ:=[]) (gf:=false) rdq_good ?_
    conv=>whnf
    refine known false (by simp;omega) ?_
    conv=>whnf
    refine⟨(ks++[pText (l.drop s.k)],js,s1),⟨g',.inr ⟨by omega,by omega,by omega⟩,by simp;omega,by omega,fun h=>absurd h hf1,hR⟩,?_,?_⟩
    ·dsimp only
     rw[if_neg hf1,if_pos hf]
     omega
    refine⟨rfl,?_,?_⟩<;>repeat' (first|exact trivial|exact rfl|(rw[List.map_append];exact rfl)|refine and_rfl ?_|refine and_two ?_ ?_)
   have hf1:s1.fl<0:=by simpa using hf1
   rw[if_pos hf1] at hR
   dsimp only at hR
   have hn:=hG.num (s:=s1) (by omega) (by omega) (by omega)
   have cE:=hE s1 (by omega) (by omega) (by omega) (by omega)
   generalize E s1=x1 at hn hR cE
   obtain⟨j,s2⟩:=x1
   dsimp only at hn hR cE
   refine shareE ?_ (fun hsh=>?_) ?_
   rotate_left
   ·conv=>whnf
    refine⟨some planT9,by kernel_rfl,?_⟩
    conv=>whnf
    refine⟨.bx 3 4,fun m2 K2 hK=>hK,?_⟩
    conv=>whnf
    refine And.intro ?_ ?_
    ·conv=>whnf
     refine mcall (T:=TM radM) (φ:=[]) (gf:=false) cE ?_
     conv=>whnf
     refine⟨hszj,?_⟩
     conv=>whnf
     exact hsh
    ·conv=>whnf
     refine⟨?_,trivial⟩
     conv=>whnf
     refine mcall (T:=TM radM) (φ:=[]) (gf:=false) cE ?_
     conv=>whnf
     refine⟨hszj,?_⟩
     conv=>whnf
     exact hsh
   conv=>whnf
   refine mcall (T:=TM radM) (φ:=[]) (gf:=false) rdq_good ?_
   conv=>whnf
   rintro(_|_) hf2
   ·have hf2:¬s2.fl<0:=by simpa using hf2
    rw[if_neg (fun h=>hf2 h.1),if_neg hf2] at hR
    repeat((conv=>whnf);first|refine known true rfl ?_|refine known false rfl ?_)
    conv=>whnf
    refine mcall (T:=TM radM) (φ:=[]) (gf:=false) rdq_good ?_
    conv=>whnf
    refine known false (by simp;omega) ?_
    conv=>whnf
    refine⟨(ks++[pText (l.drop s.k)],js++[j],s2),⟨g',.inr ⟨by omega,by omega,by omega⟩,by simp;omega,by simp;omega,fun h=>absurd h hf2,hR⟩,?_,?_⟩
    ·dsimp only
     rw[if_neg hf2,if_pos hf]
     omega
    refine⟨rfl,?_,?_⟩<;>repeat' (first|exact trivial|exact rfl|(rw[List.map_append];exact rfl)|refine and_rfl ?_|refine and_two ?_ ?_)
   have hf2:s2.fl<0:=by simpa using hf2
   conv=>whnf
   refine mcall (T:=TM radM) (φ:=[]) (gf:=false) (rdq_sym sRC hl) ?_
   conv=>whnf
   rintro(_|_) hw1
   rotate_left
   ·have hw1:isSym sRC (l.drop s2.k)=true:=hw1
    have hlt2:=tk_lt hw1
    have hw2:IntKind.i64.wrap (((s2.k:Nat):Int)+1)=((s2.k+1:Nat):Int):=wrap_succ (by omega)
    rw[if_pos ⟨hf2,hw1⟩] at hR
    subst hR
    conv=>whnf
    rw[hw2]
    have c:=rdq_add (l:=l) (e:=e) (s:=rAdv s2) ⟨7,[],0,ks++[pText (l.drop s.k)],js++[j]⟩ (by(try dsimp only);omega)
    rw[show rndV ⟨7,[],0,ks++[pText (l.drop s.k)],js++[j]⟩= .ag [int 7,bstr [],int 0,.sl false 1 (ks.map strD++[strD (pText (l.drop s.k))]),.sl false 1 (js.map intD++[intD j])] by simp only[rndV,List.map_append,List.map_cons,List.map_nil]] at c
    conv=>whnf
    refine mcall (T:=TM radM) (φ:=[]) (gf:=false) c ?_
    conv=>whnf
    exact⟨rfl,rfl,rfl⟩
   have hw1:isSym sRC (l.drop s2.k)=false:=hw1
   rw[if_neg (fun h=>by rw[hw1] at h;exact absurd h.2 (by decide)),if_pos hf2] at hR
   have ht2:=rTake_num ho (s:=s2) sCm (by omega) (by omega)
   conv=>whnf
   refine mcall (T:=TM radM) (φ:=[]) (gf:=false) rdq_good ?_
   conv=>whnf
   refine known true (by simp;omega) ?_
   conv=>whnf
   refine mcall (T:=TM radM) (φ:=[]) (gf:=false) (rdq_take (e:=e) (s:=s2) sCm hl (by omega)) ?_
   generalize rTake l e sCm s2=s3 at ht2 hR
   conv=>whnf
   refine⟨(ks++[pText (l.drop s.k)],js++[j],s3),⟨g',?_,by simp;omega,by simp;omega,fun h=>⟨by simp;omega,by simp;omega,by(try dsimp only);omega⟩,hR⟩,?_,?_⟩
   ·unfold RdIn;omega
   ·dsimp only
    rw[if_pos hf]
    split<;>omega
   refine⟨rfl,?_,?_⟩<;>repeat' (first|exact trivial|exact rfl|(rw[List.map_append];exact rfl)|refine and_rfl ?_|refine and_two ?_ ?_)
end
end Go.Proofs.YtglndfgmlminpaaGreatDoor
