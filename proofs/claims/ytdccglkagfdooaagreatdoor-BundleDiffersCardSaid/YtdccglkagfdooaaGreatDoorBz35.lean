/- Texts joined by pack.py: XSyJ -/
import Derived.Test.YtdccglkagfdooaaGreatDoorBz33
set_option maxHeartbeats 16000000
set_option maxRecDepth 100000
namespace Go.Proofs.YtdccglkagfdooaaGreatDoor
open Go.RowKit
section
variable {l:List Tok} {k:Nat} {e:Int} {ns:List Nd} {fs:List Fc} {f:Nat} {E:Pars}
theorem pVal_at (h:k<l.length):pVal (l.drop k)=l[k].val:=by rw[List.drop_eq_getElem_cons h];rfl
theorem listP_room (hE:EatsP E) (hG:GrowP E) {fin:Bs} {ks:List Int} {r1:List Tok} {ns1:List Nd} (h:listP e fin E (l.drop k) ns= .ok (ks,r1,ns1)) (hn:ns.length+(l.length - k)≤1000000):ns1.length≤1000000:=by
 have:=(listP_grow hG hE h).1
 rw[List.length_drop] at this
 omega
def planC (T:Plan):Plan:= .one 0 (.one 3 (.pull 1 (.alt 2 (.alt 4 T .stop) (.alt 4 (.one 2 T) .stop))))
def planC1:Plan:=planC (.one 5 (.one 6 (.one 7 .done)))
theorem x_prim (hC:PC 183 E l e fs f) (hE:EatsP E) (hG:GrowP E) (hA:AtP e E) (hl:l.length≤1000000):PC 229 (primP e E) l e fs (f+1):=by
 intro k ns hk hf hn
 rw[primP_eq]
 generalize hR:primQ e E (l.drop k) ns=R
 unfold primQ at hR
 refine mesx Tryz.func229 (by kernel_rfl) (by kernel_rfl) ?_
 conv=>whnf
 refine .inl ?_
 cases h3:nextB 3 [] (l.drop k) with
 |true=>
  have hlt:=nextB_yes h3
  rw[if_pos h3,pVal_at hlt,tail_drop] at hR
  conv=>whnf
  refine mcall (T:=TM parM) (φ:=[]) (gf:=false) (x_takeY (ts:=[]) hl (by simp) h3 hlt) ?_
  conv=>whnf
  refine known true rfl ?_
  conv=>whnf
  refine .inl ?_
  conv=>whnf
  refine mcall (T:=TM parM) (φ:=[]) (gf:=false) (x_add (ns:=ns) (ndM 3 [] l[k].val []) (show ns.length≤1000000 by omega)) ?_
  conv=>whnf
  exact⟨_,by rw[←hR,addN,outP_ok (by omega)],rfl,rfl,rfl⟩
 |false=>
 rw[if_neg (by rw[h3];simp)] at hR
 conv=>whnf
 refine mcall (T:=TM parM) (φ:=[]) (gf:=false) (x_takeN (ts:=[]) hl (by simp) h3 hk) ?_
 conv=>whnf
 refine known false rfl ?_
 conv=>whnf
 refine .inl ?_
 cases h4:nextB 4 [] (l.drop k) with
 |true=>
  have hlt:=nextB_yes h4
  rw[if_pos h4,pText_at hlt,tail_drop] at hR
  conv=>whnf
  refine mcall (T:=TM parM) (φ:=[]) (gf:=false) (x_takeY (ts:=[]) hl (by simp) h4 hlt) ?_
  conv=>whnf
  refine known true rfl ?_
  conv=>whnf
  refine .inl ?_
  conv=>whnf
  refine mcall (T:=TM parM) (φ:=[]) (gf:=false) (x_add (ns:=ns) (ndM 4 l[k].text 0 []) (show ns.length≤1000000 by omega)) ?_
  conv=>whnf
  exact⟨_,by rw[←hR,addN,outP_ok (by omega)],rfl,rfl,rfl⟩
 |false=>
 rw[if_neg (by rw[h4];simp)] at hR
 conv=>whnf
 refine mcall (T:=TM parM) (φ:=[]) (gf:=false) (x_takeN (ts:=[]) hl (by simp) h4 hk) ?_
 conv=>whnf
 refine known false rfl ?_
 conv=>whnf
 refine .inl ?_
 cases h2:nextB 2 [wNull,wTrue,wFalse] (l.drop k) with
 |true=>
  have hlt:=nextB_yes h2
  rw[if_pos h2,pText_at hlt,tail_drop] at hR
  conv=>whnf
  refine mcall (T:=TM parM) (φ:=[]) (gf:=false) (x_takeY (ts:=[wNull,wTrue,wFalse]) hl (by simp) h2 hlt) ?_
  conv=>whnf
  refine known true rfl ?_
  conv=>whnf
  rintro(_|_) a1
  rotate_left
  ·have a1:(l[k].text==wNull)=true:=(sEq_mk _ _).symm.trans a1
   rw[if_pos a1] at hR
   conv=>whnf
   refine .inl ?_
   conv=>whnf
   refine mcall (T:=TM parM) (φ:=[]) (gf:=false) (x_add (ns:=ns) (ndM 1 [] 0 []) (show ns.length≤1000000 by omega)) ?_
   conv=>whnf
   exact⟨_,by rw[←hR,addN,outP_ok (by omega)],rfl,rfl,rfl⟩
  have a1:(l[k].text==wNull)=false:=(sEq_mk _ _).symm.trans a1
  rw[if_neg (by rw[a1];simp)] at hR
  conv=>whnf
  rintro(_|_) a2
  rotate_left
  ·have a2:(l[k].text==wTrue)=true:=(sEq_mk _ _).symm.trans a2
   rw[if_pos a2] at hR
   conv=>whnf
   refine .inl ?_
   conv=>whnf
   refine mcall (T:=TM parM) (φ:=[]) (gf:=false) (x_add (ns:=ns) (ndM 2 [] 1 []) (show ns.length≤1000000 by omega)) ?_
   conv=>whnf
   exact⟨_,by rw[←hR,addN,outP_ok (by omega)],rfl,rfl,rfl⟩
  have a2:(l[k].text==wTrue)=false:=(sEq_mk _ _).symm.trans a2
  rw[if_neg (by rw[a2];simp)] at hR
  conv=>whnf
  refine .inl ?_
  conv=>whnf
  refine mcall (T:=TM parM) (φ:=[]) (gf:=false) (x_add (ns:=ns) (ndM 2 [] 0 []) (show ns.length≤1000000 by omega)) ?_
  conv=>whnf
  exact⟨_,by rw[←hR,addN,outP_ok (by omega)],rfl,rfl,rfl⟩
 |false=>
 rw[if_neg (by rw[h2];simp)] at hR
 conv=>whnf
 refine mcall (T:=TM parM) (φ:=[]) (gf:=false) (x_takeN (ts:=[wNull,wTrue,wFalse]) hl (by simp) h2 hk) ?_
 conv=>whnf
 refine known false rfl ?_
 conv=>whnf
 refine .inl ?_
 cases h1:nextB 1 [] (l.drop k) with
 |true=>
  have hlt:=nextB_yes h1
  rw[if_pos h1,pText_at hlt,tail_drop] at hR
  conv=>whnf
  refine mcall (T:=TM parM) (φ:=[]) (gf:=false) (x_takeY (ts:=[]) hl (by simp) h1 hlt) ?_
  conv=>whnf
  refine known true rfl ?_
  conv=>whnf
  refine .inl ?_
  cases hb:nextB 5 [sLP] (l.drop (k+1)) with
  |false=>
   rw[if_neg (by rw[hb];simp)] at hR
   conv=>whnf
   refine mcall (T:=TM parM) (φ:=[]) (gf:=false) (x_takeN (k:=k+1) (ts:=[sLP]) hl (by simp) hb hlt) ?_
   conv=>whnf
   refine known false rfl ?_
   conv=>whnf
   refine .inl ?_
   conv=>whnf
   refine mcall (T:=TM parM) (φ:=[]) (gf:=false) (x_add (ns:=ns) (ndM 5 l[k].text 0 []) (show ns.length≤1000000 by omega)) ?_
   conv=>whnf
   exact⟨_,by rw[←hR,addN,outP_ok (by omega)],rfl,rfl,rfl⟩
  |true=>
   have hlt2:=nextB_yes hb
   rw[if_pos hb,tail_drop,lstN] at hR
   conv=>whnf
   refine mcall (T:=TM parM) (φ:=[]) (gf:=false) (x_takeY (k:=k+1) (ts:=[sLP]) hl (by simp) hb hlt2) ?_
   conv=>whnf
   refine known true rfl ?_
   have c:=x_exprs (k:=k+1+1) (ns:=ns) (fin:=sRP) (by decide) hC hE hG hA hl (by omega) (by omega) (by omega)
   conv=>whnf
   refine⟨some planC1,by kernel_rfl,?_⟩
   conv=>whnf
   refine⟨.bx 9 1,fun m2 K2 hK=>hK,?_⟩
   conv=>whnf
   refine⟨?_,?_,trivial⟩
   all_goals
    conv=>whnf
    try refine⟨?_,trivial⟩
    conv=>whnf
   all_goals
    cases hL:listP e sRP E (l.drop (k+1+1)) ns with
    |error o=>
     rw[hL] at c hR
     refine .inr ?_
     subst hR
     exact mpan (T:=TM parM) c rfl
    |ok x=>
     obtain⟨ks,r2,ns2⟩:=x
     have hrm:=listP_room hE hG hL (by omega)
     rw[hL] at c hR
     refine .inl ?_
     conv=>whnf
     refine mcall (T:=TM parM) (φ:=[]) (gf:=false) c ?_
     conv=>whnf
     refine mcall (T:=TM parM) (φ:=[]) (gf:=false) (x_add (ns:=ns2) (ndM 11 l[k].text 0 ks) hrm) ?_
     conv=>whnf
     exact⟨_,by rw[←hR];rfl,rfl,rfl,rfl⟩
 |false=>
 rw[if_neg (by rw[h1];simp)] at hR
 conv=>whnf
 refine mcall (T:=TM parM) (φ:=[]) (gf:=false) (x_takeN (ts:=[]) hl (by simp) h1 hk) ?_
 conv=>whnf
 refine known false rfl ?_
 conv=>whnf
 refine .inl ?_
 conv=>whnf
 refine mcall (T:=TM parM) (φ:=[]) (gf:=false) (x_next 6 [] hk hl (by simp)) ?_
 cases h6:nextB 6 [] (l.drop k) with
 |true=>
  have hlt:=nextB_yes h6
  rw[if_pos h6,pText_at hlt,tail_drop] at hR
  conv=>whnf
  refine known true rfl ?_
  conv=>whnf
  refine .inl ?_
  conv=>whnf
  refine mcall (T:=TM parM) (φ:=[]) (gf:=false) (x_mustY (ts:=[]) hl (by simp) h6 hlt) ?_
  cases hb:nextB 5 [sLP] (l.drop (k+1)) with
  |false=>
   rw[if_neg (by rw[hb];simp)] at hR
   subst hR
   conv=>whnf
   refine .inr ?_
   exact mpan (T:=TM parM) (x_mustN (k:=k+1) (ts:=[sLP]) hl (by simp) hb hlt) rfl
  |true=>
   have hlt2:=nextB_yes hb
   rw[if_pos hb,tail_drop,lstN] at hR
   conv=>whnf
   refine .inl ?_
   conv=>whnf
   refine mcall (T:=TM parM) (φ:=[]) (gf:=false) (x_mustY (k:=k+1) (ts:=[sLP]) hl (by simp) hb hlt2) ?_
   have c:=x_exprs (k:=k+1+1) (ns:=ns) (fin:=sRP) (by decide) hC hE hG hA hl (by omega) (by omega) (by omega)
   conv=>whnf
   refine⟨some planC1,by kernel_rfl,?_⟩
   conv=>whnf
   refine⟨.bx 13 1,fun m2 K2 hK=>hK,?_⟩
   conv=>whnf
   refine⟨?_,?_,trivial⟩
   all_goals
    conv=>whnf
    try refine⟨?_,trivial⟩
    conv=>whnf
   all_goals
    cases hL:listP e sRP E (l.drop (k+1+1)) ns with
    |error o=>
     rw[hL] at c hR
     refine .inr ?_
     subst hR
     exact mpan (T:=TM parM) c rfl
    |ok x=>
     obtain⟨ks,r2,ns2⟩:=x
     have hrm:=listP_room hE hG hL (by omega)
     rw[hL] at c hR
     refine .inl ?_
     conv=>whnf
     refine mcall (T:=TM parM) (φ:=[]) (gf:=false) c ?_
     conv=>whnf
     refine mcall (T:=TM parM) (φ:=[]) (gf:=false) (x_add (ns:=ns2) (ndM 12 l[k].text 0 ks) hrm) ?_
     conv=>whnf
     exact⟨_,by rw[←hR];rfl,rfl,rfl,rfl⟩
 |false=>
 rw[if_neg (by rw[h6];simp)] at hR
 conv=>whnf
 refine known false rfl ?_
 cases h5:nextB 5 [sLB,sLC,sLP] (l.drop k) with
 |false=>
  rw[if_neg (by rw[h5];simp)] at hR
  subst hR
  conv=>whnf
  refine .inr ?_
  exact mpan (T:=TM parM) (x_mustN (ts:=[sLB,sLC,sLP]) hl (by simp) h5 hk) rfl
 |true=>
 have hlt:=nextB_yes h5
 rw[if_pos h5,pText_at hlt,tail_drop] at hR
 conv=>whnf
 refine .inl ?_
 conv=>whnf
 refine mcall (T:=TM parM) (φ:=[]) (gf:=false) (x_mustY (ts:=[sLB,sLC,sLP]) hl (by simp) h5 hlt) ?_
 conv=>whnf
 rintro(_|_) a1
 rotate_left
 ·have a1:(l[k].text==sLB)=true:=(sEq_mk _ _).symm.trans a1
  rw[if_pos a1,lstN] at hR
  have c:=x_exprs (k:=k+1) (ns:=ns) (fin:=sRB) (by decide) hC hE hG hA hl (by omega) (by omega) (by omega)
  cases hL:listP e sRB E (l.drop (k+1)) ns with
  |error o=>
   rw[hL] at c hR
   subst hR
   conv=>whnf
   refine .inr ?_
   exact mpan (T:=TM parM) c rfl
  |ok x=>
   obtain⟨ks,r2,ns2⟩:=x
   have hrm:=listP_room hE hG hL (by omega)
   rw[hL] at c hR
   conv=>whnf
   refine .inl ?_
   conv=>whnf
   refine mcall (T:=TM parM) (φ:=[]) (gf:=false) c ?_
   conv=>whnf
   refine .inl ?_
   conv=>whnf
   refine mcall (T:=TM parM) (φ:=[]) (gf:=false) (x_add (ns:=ns2) (ndM 6 [] 0 ks) hrm) ?_
   conv=>whnf
   exact⟨_,by rw[←hR];rfl,rfl,rfl,rfl⟩
 have a1:(l[k].text==sLB)=false:=(sEq_mk _ _).symm.trans a1
 rw[if_neg (by rw[a1];simp)] at hR
 conv=>whnf
 rintro(_|_) a2
 rotate_left
 ·have a2:(l[k].text==sLC)=true:=(sEq_mk _ _).symm.trans a2
  rw[if_pos a2] at hR
  have c:=x_keyed (k:=k+1) (ns:=ns) hC hE hG hA hl (by omega) (by omega) (by omega)
  rw[hR] at c
  cases R with
  |error o=>
   conv=>whnf
   refine .inr ?_
   exact mpan (T:=TM parM) c rfl
  |ok x=>
   conv=>whnf
   refine .inl ?_
   conv=>whnf
   refine mcall (T:=TM parM) (φ:=[]) (gf:=false) c ?_
   conv=>whnf
   exact⟨_,rfl,rfl,rfl,rfl⟩
 have a2:(l[k].text==sLC)=false:=(sEq_mk _ _).symm.trans a2
 rw[if_neg (by rw[a2];simp)] at hR
 cases hp:E (l.drop (k+1)) ns with
 |error o=>
  rw[hp] at hR
  subst hR
  conv=>whnf
  refine .inr ?_
  exact mpan (T:=TM parM) (hC.err (by omega) (by omega) (by omega) hp) rfl
 |ok x=>
  obtain⟨i,r2,ns2⟩:=x
  rw[hp] at hR
  obtain⟨k1,rfl,c1,c2,c3,c4⟩:=hC.ok hE hG (by omega) (by omega) (by omega) hp
  conv=>whnf
  refine .inl ?_
  conv=>whnf
  refine mcall (T:=TM parM) (φ:=[]) (gf:=false) c4 ?_
  dsimp only at hR
  cases hb:nextB 5 [sRP] (l.drop k1) with
  |false=>
   rw[if_neg (by rw[hb];simp)] at hR
   subst hR
   conv=>whnf
   refine .inr ?_
   exact mpan (T:=TM parM) (x_mustN (k:=k1) (ts:=[sRP]) hl (by simp) hb c2) rfl
  |true=>
   have hlt2:=nextB_yes hb
   rw[if_pos hb,tail_drop] at hR
   conv=>whnf
   refine .inl ?_
   conv=>whnf
   refine mcall (T:=TM parM) (φ:=[]) (gf:=false) (x_mustY (k:=k1) (ts:=[sRP]) hl (by simp) hb hlt2) ?_
   conv=>whnf
   exact⟨_,by rw[←hR,outP_ok (by omega)],rfl,rfl,rfl⟩
end
end Go.Proofs.YtdccglkagfdooaaGreatDoor
