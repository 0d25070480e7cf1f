/- Texts joined by pack.py: XSyO -/
import Derived.Test.YtdccglkagfdooaaGreatDoorBz33
set_option maxHeartbeats 16000000
set_option maxRecDepth 100000
namespace Go.Proofs.YtdccglkagfdooaaGreatDoor
open Go.RowKit
section
variable {l:List Tok} {k:Nat} {e:Int} {ns:List Nd} {fs:List Fc} {f g:Nat} {E Bl:Pars}
theorem assigns_next (h:assigns (l.drop k)=true):nextB 1 [] (l.drop k)=true∧nextB 5 [sEq1] (l.drop (k+1))=true:=by
 rcases Nat.lt_or_ge k l.length with h1|h1
 ·rw[List.drop_eq_getElem_cons h1] at h
  simp only[assigns,Bool.and_eq_true,decide_eq_true_eq] at h
  refine⟨by rw[nextB_eq _ _ h1];simp[h.1],by rw[nextB_one];exact h.2⟩
 ·rw[List.drop_eq_nil_of_le h1] at h;cases h
theorem x_stmt (hC:PC 183 (exprP e f) l e fs f) (hB:PC 120 Bl l e fs g) (hfg:f=g+1) (hBE:EatsP Bl) (hBG:GrowP Bl) (hl:l.length≤1000000):PC 160 (stmtP e f Bl) l e fs f:=by
 intro k ns hk hf hn
 have hE:EatsP (exprP e f):=exprP_eats f
 have hG:GrowP (exprP e f):=exprP_grow f
 rw[stmtP_eq]
 generalize hR:stmtQ e f Bl (l.drop k) ns=R
 unfold stmtQ at hR
 refine mesx Tryz.func160 (by kernel_rfl) (by kernel_rfl) ?_
 conv=>whnf
 refine .inl ?_
 cases h2:nextB 2 [wLet,wIf,wWhile,wReturn] (l.drop k) with
 |true=>
  have hlt:=nextB_yes h2
  rw[if_pos h2,pText_at hlt,tail_drop] at hR
  conv=>whnf
  refine mcall (T:=TM parM) (φ:=[]) (gf:=false) (x_takeY (ts:=[wLet,wIf,wWhile,wReturn]) hl (by simp) h2 hlt) ?_
  conv=>whnf
  refine known true rfl ?_
  conv=>whnf
  rintro(_|_) a1
  rotate_left
  ·have a1:(l[k].text==wLet)=true:=(sEq_mk _ _).symm.trans a1
   rw[if_pos a1,letQ] at hR
   cases h1:nextB 1 [] (l.drop (k+1)) with
   |false=>
    rw[if_neg (by rw[h1];simp)] at hR
    subst hR
    conv=>whnf
    refine .inr ?_
    exact mpan (T:=TM parM) (x_mustN (k:=k+1) (ts:=[]) hl (by simp) h1 hlt) rfl
   |true=>
   have hlt1:=nextB_yes h1
   rw[if_pos h1,pText_at hlt1,tail_drop] at hR
   conv=>whnf
   refine .inl ?_
   conv=>whnf
   refine mcall (T:=TM parM) (φ:=[]) (gf:=false) (x_mustY (k:=k+1) (ts:=[]) hl (by simp) h1 hlt1) ?_
   cases h5:nextB 5 [sEq1] (l.drop (k+1+1)) with
   |false=>
    rw[if_neg (by rw[h5];simp)] at hR
    subst hR
    conv=>whnf
    refine .inr ?_
    exact mpan (T:=TM parM) (x_mustN (k:=k+1+1) (ts:=[sEq1]) hl (by simp) h5 hlt1) rfl
   |true=>
   have hlt5:=nextB_yes h5
   rw[if_pos h5,tail_drop,valueP_eq] at hR
   conv=>whnf
   refine .inl ?_
   conv=>whnf
   refine mcall (T:=TM parM) (φ:=[]) (gf:=false) (x_mustY (k:=k+1+1) (ts:=[sEq1]) hl (by simp) h5 hlt5) ?_
   have c:=x_value (k:=k+1+1+1) (ns:=ns) hC hE hG hl (by omega) (by omega) (by omega)
   cases hv:vqP e (exprP e f) (l.drop (k+1+1+1)) ns with
   |error o=>
    rw[hv] at c hR
    subst hR
    conv=>whnf
    refine .inr ?_
    exact mpan (T:=TM parM) c rfl
   |ok x=>
    obtain⟨i,r2,ns2⟩:=x
    have hrm:=(vqP_room hE hG hv).1
    rw[hv] at c hR
    conv=>whnf
    refine .inl ?_
    conv=>whnf
    refine mcall (T:=TM parM) (φ:=[]) (gf:=false) c ?_
    conv=>whnf
    refine .inl ?_
    conv=>whnf
    refine mcall (T:=TM parM) (φ:=[]) (gf:=false) (x_add (ns:=ns2) (ndM 13 l[k+1].text 0 [i]) (show ns2.length≤1000000 by omega)) ?_
    conv=>whnf
    exact⟨_,by rw[←hR];rfl,rfl,rfl,rfl⟩
  have a1:(l[k].text==wLet)=false:=(sEq_mk _ _).symm.trans a1
  rw[if_neg (by rw[a1];simp)] at hR
  conv=>whnf
  rintro(_|_) a2
  rotate_left
  ·have a2:(l[k].text==wIf)=true:=(sEq_mk _ _).symm.trans a2
   rw[if_pos a2] at hR
   have c:=x_choice (k:=k+1) (ns:=ns) hC hE hG hB hBE hBG hl (by omega) (by omega) (by omega) (by omega)
   rw[hR] at c
   cases R with
   |error o=>
    conv=>whnf
    refine .inr ?_
    exact mpan (T:=TM parM) c rfl
   |ok x=>
    conv=>whnf
    refine .inl ?_
    conv=>whnf
    refine mcall (T:=TM parM) (φ:=[]) (gf:=false) c ?_
    conv=>whnf
    exact⟨_,rfl,rfl,rfl,rfl⟩
  have a2:(l[k].text==wIf)=false:=(sEq_mk _ _).symm.trans a2
  rw[if_neg (by rw[a2];simp)] at hR
  conv=>whnf
  rintro(_|_) a3
  rotate_left
  ·have a3:(l[k].text==wWhile)=true:=(sEq_mk _ _).symm.trans a3
   rw[if_pos a3,whileP] at hR
   cases h1:exprP e f (l.drop (k+1)) ns with
   |error o=>
    rw[h1] at hR
    subst hR
    conv=>whnf
    refine .inr ?_
    exact mpan (T:=TM parM) (hC.err (by omega) (by omega) (by omega) h1) rfl
   |ok r=>
   obtain⟨c,r1,ns1⟩:=r
   rw[h1] at hR
   obtain⟨k1,rfl,c1,c2,c3,c4⟩:=hC.ok hE hG (by omega) (by omega) (by omega) h1
   conv=>whnf
   refine .inl ?_
   conv=>whnf
   refine mcall (T:=TM parM) (φ:=[]) (gf:=false) c4 ?_
   dsimp only at hR
   cases h3:Bl (l.drop k1) ns1 with
   |error o=>
    rw[h3] at hR
    subst hR
    conv=>whnf
    refine .inr ?_
    exact mpan (T:=TM parM) (hB.err c2 (by omega) (by omega) h3) rfl
   |ok r=>
   obtain⟨b,r2,ns2⟩:=r
   rw[h3] at hR
   obtain⟨k2,rfl,d1,d2,d3,d4⟩:=hB.ok hBE hBG c2 (by omega) (by omega) h3
   conv=>whnf
   refine .inl ?_
   conv=>whnf
   refine mcall (T:=TM parM) (φ:=[]) (gf:=false) d4 ?_
   conv=>whnf
   refine⟨of_decide_eq_true rfl,?_⟩
   conv=>whnf
   refine .inl ?_
   conv=>whnf
   refine mcall (T:=TM parM) (φ:=[]) (gf:=false) (x_add (ns:=ns2) (ndM 16 [] 0 [c,b]) (show ns2.length≤1000000 by omega)) ?_
   conv=>whnf
   exact⟨_,by rw[←hR];dsimp only[addN];rw[outP_ok d2],rfl,rfl,rfl⟩
  have a3:(l[k].text==wWhile)=false:=(sEq_mk _ _).symm.trans a3
  rw[if_neg (by rw[a3];simp),valueP_eq] at hR
  have c:=x_value (k:=k+1) (ns:=ns) hC hE hG hl (by omega) (by omega) (by omega)
  cases hv:vqP e (exprP e f) (l.drop (k+1)) ns with
  |error o=>
   rw[hv] at c hR
   subst hR
   conv=>whnf
   refine .inr ?_
   exact mpan (T:=TM parM) c rfl
  |ok x=>
   obtain⟨i,r2,ns2⟩:=x
   have hrm:=(vqP_room hE hG hv).1
   rw[hv] at c hR
   conv=>whnf
   refine .inl ?_
   conv=>whnf
   refine mcall (T:=TM parM) (φ:=[]) (gf:=false) c ?_
   conv=>whnf
   refine .inl ?_
   conv=>whnf
   refine mcall (T:=TM parM) (φ:=[]) (gf:=false) (x_add (ns:=ns2) (ndM 17 [] 0 [i]) (show ns2.length≤1000000 by omega)) ?_
   conv=>whnf
   exact⟨_,by rw[←hR];rfl,rfl,rfl,rfl⟩
 |false=>
 rw[if_neg (by rw[h2];simp)] at hR
 conv=>whnf
 refine mcall (T:=TM parM) (φ:=[]) (gf:=false) (x_takeN (ts:=[wLet,wIf,wWhile,wReturn]) hl (by simp) h2 hk) ?_
 conv=>whnf
 refine known false rfl ?_
 conv=>whnf
 refine .inl ?_
 conv=>whnf
 refine mcall (T:=TM parM) (φ:=[]) (gf:=false) (x_assigns hl hk) ?_
 cases hA:assigns (l.drop k) with
 |true=>
  obtain⟨h1,h5⟩:=assigns_next hA
  have hlt:=nextB_yes h1
  have hlt5:=nextB_yes h5
  rw[if_pos hA,pText_at hlt,tail_drop,tail_drop,valueP_eq] at hR
  conv=>whnf
  refine known true rfl ?_
  conv=>whnf
  refine .inl ?_
  conv=>whnf
  refine mcall (T:=TM parM) (φ:=[]) (gf:=false) (x_mustY (ts:=[]) hl (by simp) h1 hlt) ?_
  conv=>whnf
  refine .inl ?_
  conv=>whnf
  refine mcall (T:=TM parM) (φ:=[]) (gf:=false) (x_mustY (k:=k+1) (ts:=[sEq1]) hl (by simp) h5 hlt5) ?_
  have c:=x_value (k:=k+1+1) (ns:=ns) hC hE hG hl (by omega) (by omega) (by omega)
  cases hv:vqP e (exprP e f) (l.drop (k+1+1)) ns with
  |error o=>
   rw[hv] at c hR
   subst hR
   conv=>whnf
   refine .inr ?_
   exact mpan (T:=TM parM) c rfl
  |ok x=>
   obtain⟨i,r2,ns2⟩:=x
   have hrm:=(vqP_room hE hG hv).1
   rw[hv] at c hR
   conv=>whnf
   refine .inl ?_
   conv=>whnf
   refine mcall (T:=TM parM) (φ:=[]) (gf:=false) c ?_
   conv=>whnf
   refine .inl ?_
   conv=>whnf
   refine mcall (T:=TM parM) (φ:=[]) (gf:=false) (x_add (ns:=ns2) (ndM 14 l[k].text 0 [i]) (show ns2.length≤1000000 by omega)) ?_
   conv=>whnf
   exact⟨_,by rw[←hR];rfl,rfl,rfl,rfl⟩
 |false=>
  rw[if_neg (by rw[hA];simp),valueP_eq] at hR
  conv=>whnf
  refine known false rfl ?_
  have c:=x_value (k:=k) (ns:=ns) hC hE hG hl hk hf hn
  cases hv:vqP e (exprP e f) (l.drop k) ns with
  |error o=>
   rw[hv] at c hR
   subst hR
   conv=>whnf
   refine .inr ?_
   exact mpan (T:=TM parM) c rfl
  |ok x=>
   obtain⟨i,r2,ns2⟩:=x
   have hrm:=(vqP_room hE hG hv).1
   rw[hv] at c hR
   conv=>whnf
   refine .inl ?_
   conv=>whnf
   refine mcall (T:=TM parM) (φ:=[]) (gf:=false) c ?_
   conv=>whnf
   refine .inl ?_
   conv=>whnf
   refine mcall (T:=TM parM) (φ:=[]) (gf:=false) (x_add (ns:=ns2) (ndM 18 [] 0 [i]) (show ns2.length≤1000000 by omega)) ?_
   conv=>whnf
   exact⟨_,by rw[←hR];rfl,rfl,rfl,rfl⟩
end
end Go.Proofs.YtdccglkagfdooaaGreatDoor
