/- Texts joined by pack.py: XSyK XSyL XSyN XSyO0 -/
import Derived.Test.YtglndfgmlminpaaGreatDoorSx30
set_option maxHeartbeats 16000000
set_option maxRecDepth 100000
namespace Go.Proofs.YtglndfgmlminpaaGreatDoor
open Go.RowKit
section
variable {l:List Tok} {e:Int} {fs:List Fc} {f:Nat} {E:Pars}
theorem x_post (hP:PC 259 (primP e E) l e fs (f+1)) (hC:PC 139 E l e fs f) (hE:EatsP E) (hG:GrowP E) (hl:l.length≤1000000):PC 255 (postP e E) l e fs (f+1):=by
 intro k ns hk hf hn
 generalize hR:postP e E (l.drop k) ns=R
 unfold postP at hR
 refine mesx Tryz.func255 (by kernel_rfl) (by kernel_rfl) ?_
 cases h1:primP e E (l.drop k) ns with
 |error o=>
  rw[h1] at hR
  subst hR
  conv=>whnf
  refine .inr ?_
  exact mpan (T:=TM parM) (hP.err hk hf hn h1) rfl
 |ok r=>
  obtain⟨i,r1,ns1⟩:=r
  rw[h1] at hR
  obtain⟨k1,rfl,c1,c2,c3,c4⟩:=hP.ok (primP_eats hE) (primP_grow hG hE) hk hf hn h1
  conv=>whnf
  refine .inl ?_
  conv=>whnf
  refine mcall (T:=TM parM) (φ:=[]) (gf:=false) c4 ?_
  conv=>whnf
  refine⟨[],Nat×Int×List Nd,fun⟨k,i,ns⟩=>[(3,int i)],fun⟨k,i,ns⟩=>[(29,some (pBox l k e 30 31)),(30,some (nRow ns)),(31,some (fRow fs))],
   fun⟨k,i,ns⟩=>k1≤k∧k≤l.length∧ns.length+(l.length - k)≤1000000∧∃f',l.length - k≤f'∧postF e E f' i (l.drop k) ns=R,fun x=>l.length - x.1,(k1,i,ns1),⟨Nat.le_refl _,c2,by omega,_,by rw[List.length_drop];exact Nat.le_refl _,hR⟩,?_,?_⟩
  ·refine⟨rfl,?_,?_⟩<;>repeat' (first|exact trivial|exact rfl|refine and_rfl ?_|refine and_two ?_ ?_)
  clear h1 hR c2 c3 c4 hn
  rintro⟨k2,i,ns⟩ ⟨b0,b1,b2,f',b3,b4⟩
  conv=>whnf
  refine .inl ?_
  cases hb:nextB 5 [sLB] (l.drop k2) with
  |false=>
   conv=>whnf
   refine mcall (T:=TM parM) (φ:=[]) (gf:=false) (x_takeN (ts:=[sLB]) hl (by simp) hb b1) ?_
   conv=>whnf
   refine known true rfl ?_
   have hR:R= .ok (i,l.drop k2,ns):=by
    rw[←b4]
    cases f' with
    |zero=>rfl
    |succ f'=>
     unfold postF
     rw[if_neg (by rw[isSym,←nextB_one,hb];simp)]
   conv=>whnf
   exact⟨_,by rw[hR,outP_ok b1],rfl,rfl,rfl⟩
  |true=>
   have hk2:=nextB_yes hb
   conv=>whnf
   refine mcall (T:=TM parM) (φ:=[]) (gf:=false) (x_takeY (ts:=[sLB]) hl (by simp) hb hk2) ?_
   conv=>whnf
   refine known false rfl ?_
   obtain⟨f',rfl⟩:∃g,f'=g+1:=⟨f' - 1,by omega⟩
   unfold postF at b4
   rw[if_pos (by rw[isSym,←nextB_one,hb]),tail_drop] at b4
   cases h2:E (l.drop (k2+1)) ns with
   |error o=>
    rw[h2] at b4
    subst b4
    conv=>whnf
    refine .inr ?_
    exact mpan (T:=TM parM) (hC.err (by omega) (by omega) (by omega) h2) rfl
   |ok r=>
    obtain⟨j,r3,ns3⟩:=r
    rw[h2] at b4
    obtain⟨k3,rfl,d1,d2,d3,d4⟩:=hC.ok hE hG (by omega) (by omega) (by omega) h2
    dsimp only at b4
    rw[mustT_drop,←nextB_one] at b4
    conv=>whnf
    refine .inl ?_
    conv=>whnf
    refine mcall (T:=TM parM) (φ:=[]) (gf:=false) d4 ?_
    cases hc:nextB 5 [sRB] (l.drop k3) with
    |false=>
     rw[if_neg (by rw[hc];simp)] at b4
     subst b4
     conv=>whnf
     refine .inr ?_
     exact mpan (T:=TM parM) (x_mustN (k:=k3) (ts:=[sRB]) hl (by simp) hc d2) rfl
    |true=>
     have hk3:=nextB_yes hc
     rw[if_pos hc] at b4
     conv=>whnf
     refine .inl ?_
     conv=>whnf
     refine mcall (T:=TM parM) (φ:=[]) (gf:=false) (x_mustY (k:=k3) (ts:=[sRB]) hl (by simp) hc hk3) ?_
     conv=>whnf
     refine .inl ?_
     conv=>whnf
     refine mcall (T:=TM parM) (φ:=[]) (gf:=false) (x_add (ns:=ns3) (ndM 10 [] 0 [i,j]) (show ns3.length≤1000000 by omega)) ?_
     conv=>whnf
     refine⟨(k3+1,(ns3.length:Nat),ns3++[ndM 10 [] 0 [i,j]]),⟨by omega,by omega,by rw[List.length_append];simp;omega,f',by omega,b4⟩,by dsimp only;omega,?_⟩
     refine⟨rfl,?_,?_⟩<;>repeat' (first|exact trivial|exact rfl|refine and_rfl ?_|refine and_two ?_ ?_)
theorem unaryP_drop {k:Nat} {ns:List Nd}:unaryP e E (l.drop k) ns=if nextB 5 [sMi] (l.drop k) then(match unaryP e E (l.drop (k+1)) ns with
      | .error o=> .error o
      | .ok (i,r2,ns2)=>addN (ndM 8 sMi 0 [i]) r2 ns2) else postP e E (l.drop k) ns:=by
 rw[nextB_one]
 rcases Nat.lt_or_ge k l.length with h|h
 ·rw[List.drop_eq_getElem_cons h]
  show(if isSym sMi _ then _ else _)=_
  rfl
 ·rw[List.drop_eq_nil_of_le h];rfl
theorem x_unary (hP:PC 255 (postP e E) l e fs (f+1)) (hE:EatsP E) (hG:GrowP E) (hl:l.length≤1000000):∀(d:Nat) (k:Nat) (ns:List Nd),l.length - k≤d→k≤l.length→l.length - k<f+1→ns.length+(l.length - k)≤1000000→
  MEnds Tryz.prog 249 [.bx 0 0] (pM l k e ns fs) (outP l e fs (unaryP e E (l.drop k) ns)):=by
 intro d
 induction d with
 |zero=>?_
 |succ d ih=>?_
 all_goals
  intro k ns hd hk hf hn
  rw[unaryP_drop]
  refine mesx Tryz.func249 (by kernel_rfl) (by kernel_rfl) ?_
  conv=>whnf
  refine .inl ?_
  cases hb:nextB 5 [sMi] (l.drop k) with
  |false=>
   conv=>whnf
   refine mcall (T:=TM parM) (φ:=[]) (gf:=false) (x_takeN (ts:=[sMi]) hl (by simp) hb hk) ?_
   conv=>whnf
   refine known false rfl ?_
   rw[if_neg (by simp)]
   cases h1:postP e E (l.drop k) ns with
   |error o=>
    conv=>whnf
    refine .inr ?_
    exact mpan (T:=TM parM) (hP.err hk hf hn h1) rfl
   |ok r=>
    obtain⟨i,r1,ns1⟩:=r
    obtain⟨k1,rfl,c1,c2,c3,c4⟩:=hP.ok (postP_eats hE) (postP_grow hG hE) hk hf hn h1
    conv=>whnf
    refine .inl ?_
    conv=>whnf
    refine mcall (T:=TM parM) (φ:=[]) (gf:=false) c4 ?_
    conv=>whnf
    exact⟨_,by rw[outP_ok c2],rfl,rfl,rfl⟩
  |true=>
   have hk1:=nextB_yes hb
   first
   |exact absurd hk1 (by omega)
   | rw[if_pos rfl]
     conv=>whnf
     refine mcall (T:=TM parM) (φ:=[]) (gf:=false) (x_takeY (ts:=[sMi]) hl (by simp) hb hk1) ?_
     conv=>whnf
     refine known true rfl ?_
     have c:=ih (k+1) ns (by omega) (by omega) (by omega) (by omega)
     cases h1:unaryP e E (l.drop (k+1)) ns with
     | error o=>
       rw[h1] at c
       conv=>whnf
       refine .inr ?_
       exact mpan (T:=TM parM) c rfl
     | ok r=>
       obtain⟨i,r1,ns1⟩:=r
       rw[h1] at c
       have hg:=unaryP_grow hG hE h1
       rw[List.length_drop] at hg
       conv=>whnf
       refine .inl ?_
       conv=>whnf
       refine mcall (T:=TM parM) (φ:=[]) (gf:=false) c ?_
       conv=>whnf
       refine .inl ?_
       conv=>whnf
       refine mcall (T:=TM parM) (φ:=[]) (gf:=false) (x_add (ns:=ns1) (ndM 8 sMi 0 [i]) (show ns1.length≤1000000 by omega)) ?_
       conv=>whnf
       exact⟨_,rfl,rfl,rfl,rfl⟩
end
end Go.Proofs.YtglndfgmlminpaaGreatDoor
namespace Go.Proofs.YtglndfgmlminpaaGreatDoor
open Go.RowKit
section
variable {l:List Tok} {e:Int} {fs:List Fc} {f:Nat} {E:Pars}
theorem x_term (hO:PC 249 (unaryP e E) l e fs (f+1)) (hE:EatsP E) (hG:GrowP E) (hl:l.length≤1000000):PC 237 (termP e E) l e fs (f+1):=by
 intro k ns hk hf hn
 have c:=x_chain_unary hO (unaryP_eats hE) (unaryP_grow hG hE) hl 5 opMul (by decide) (by decide) hk hf hn
 rw[show chainP 5 opMul (unaryP e E) (l.drop k) ns=termP e E (l.drop k) ns from rfl] at c
 refine mesx Tryz.func237 (by kernel_rfl) (by kernel_rfl) ?_
 generalize termP e E (l.drop k) ns=R at c
 cases R with
 |error o=>
  conv=>whnf
  refine .inr ?_
  exact mpan (T:=TM parM) c rfl
 |ok r=>
  conv=>whnf
  refine .inl ?_
  conv=>whnf
  refine mcall (T:=TM parM) (φ:=[]) (gf:=false) c ?_
  conv=>whnf
  exact⟨_,rfl,rfl,rfl,rfl⟩
theorem x_sum (hO:PC 237 (termP e E) l e fs (f+1)) (hE:EatsP E) (hG:GrowP E) (hl:l.length≤1000000):PC 218 (sumP e E) l e fs (f+1):=by
 intro k ns hk hf hn
 have c:=x_chain_term hO (termP_eats hE) (termP_grow hG hE) hl 5 opAdd (by decide) (by decide) hk hf hn
 rw[show chainP 5 opAdd (termP e E) (l.drop k) ns=sumP e E (l.drop k) ns from rfl] at c
 refine mesx Tryz.func218 (by kernel_rfl) (by kernel_rfl) ?_
 generalize sumP e E (l.drop k) ns=R at c
 cases R with
 |error o=>
  conv=>whnf
  refine .inr ?_
  exact mpan (T:=TM parM) c rfl
 |ok r=>
  conv=>whnf
  refine .inl ?_
  conv=>whnf
  refine mcall (T:=TM parM) (φ:=[]) (gf:=false) c ?_
  conv=>whnf
  exact⟨_,rfl,rfl,rfl,rfl⟩
theorem x_and (hO:PC 201 (notP e E) l e fs (f+1)) (hE:EatsP E) (hG:GrowP E) (hl:l.length≤1000000):PC 174 (andP e E) l e fs (f+1):=by
 intro k ns hk hf hn
 have c:=x_chain_not hO (notP_eats hE) (notP_grow hG hE) hl 2 [wAnd] (by decide) (by decide) hk hf hn
 rw[show chainP 2 [wAnd] (notP e E) (l.drop k) ns=andP e E (l.drop k) ns from rfl] at c
 refine mesx Tryz.func174 (by kernel_rfl) (by kernel_rfl) ?_
 generalize andP e E (l.drop k) ns=R at c
 cases R with
 |error o=>
  conv=>whnf
  refine .inr ?_
  exact mpan (T:=TM parM) c rfl
 |ok r=>
  conv=>whnf
  refine .inl ?_
  conv=>whnf
  refine mcall (T:=TM parM) (φ:=[]) (gf:=false) c ?_
  conv=>whnf
  exact⟨_,rfl,rfl,rfl,rfl⟩
theorem x_expr1 (hO:PC 174 (andP e E) l e fs (f+1)) (hE:EatsP E) (hG:GrowP E) (hl:l.length≤1000000):PC 139 (orP e E) l e fs (f+1):=by
 intro k ns hk hf hn
 have c:=x_chain_and hO (andP_eats hE) (andP_grow hG hE) hl 2 [wOr] (by decide) (by decide) hk hf hn
 rw[show chainP 2 [wOr] (andP e E) (l.drop k) ns=orP e E (l.drop k) ns from rfl] at c
 refine mesx Tryz.func139 (by kernel_rfl) (by kernel_rfl) ?_
 generalize orP e E (l.drop k) ns=R at c
 cases R with
 |error o=>
  conv=>whnf
  refine .inr ?_
  exact mpan (T:=TM parM) c rfl
 |ok r=>
  conv=>whnf
  refine .inl ?_
  conv=>whnf
  refine mcall (T:=TM parM) (φ:=[]) (gf:=false) c ?_
  conv=>whnf
  exact⟨_,rfl,rfl,rfl,rfl⟩
theorem notP_drop {k:Nat} {ns:List Nd}:notP e E (l.drop k) ns=if nextB 2 [wNot] (l.drop k) then(match notP e E (l.drop (k+1)) ns with
      | .error o=> .error o
      | .ok (i,r2,ns2)=>addN (ndM 8 wNot 0 [i]) r2 ns2) else cmpP e E (l.drop k) ns:=by
 rw[nextB_one]
 rcases Nat.lt_or_ge k l.length with h|h
 ·rw[List.drop_eq_getElem_cons h]
  show(if isWrd wNot _ then _ else _)=_
  rfl
 ·rw[List.drop_eq_nil_of_le h];rfl
theorem x_not (hS:PC 218 (sumP e E) l e fs (f+1)) (hE:EatsP E) (hG:GrowP E) (hl:l.length≤1000000):∀(d:Nat) (k:Nat) (ns:List Nd),l.length - k≤d→k≤l.length→l.length - k<f+1→ns.length+(l.length - k)≤1000000→
  MEnds Tryz.prog 201 [.bx 0 0] (pM l k e ns fs) (outP l e fs (notP e E (l.drop k) ns)):=by
 intro d
 induction d with
 |zero=>?_
 |succ d ih=>?_
 all_goals
  intro k ns hd hk hf hn
  rw[notP_drop]
  refine mesx Tryz.func201 (by kernel_rfl) (by kernel_rfl) ?_
  conv=>whnf
  refine .inl ?_
  cases hb:nextB 2 [wNot] (l.drop k) with
  |false=>
   conv=>whnf
   refine mcall (T:=TM parM) (φ:=[]) (gf:=false) (x_takeN (ts:=[wNot]) hl (by simp) hb hk) ?_
   conv=>whnf
   refine known false rfl ?_
   rw[if_neg (by simp)]
   generalize hR:cmpP e E (l.drop k) ns=R
   unfold cmpP at hR
   cases h1:sumP e E (l.drop k) ns with
   |error o=>
    rw[h1] at hR
    subst hR
    conv=>whnf
    refine .inr ?_
    exact mpan (T:=TM parM) (hS.err hk hf hn h1) rfl
   |ok r=>
    obtain⟨i,r1,ns1⟩:=r
    rw[h1] at hR
    obtain⟨k1,rfl,c1,c2,c3,c4⟩:=hS.ok (sumP_eats hE) (sumP_grow hG hE) hk hf hn h1
    conv=>whnf
    refine .inl ?_
    conv=>whnf
    refine mcall (T:=TM parM) (φ:=[]) (gf:=false) c4 ?_
    dsimp only at hR
    conv=>whnf
    refine .inl ?_
    cases hc:nextB 5 opCmp (l.drop k1) with
    |false=>
     rw[if_neg (by rw[←nextB_iff (by decide),hc];simp)] at hR
     conv=>whnf
     refine mcall (T:=TM parM) (φ:=[]) (gf:=false) (x_takeN (k:=k1) (ts:=opCmp) hl (by decide) hc c2) ?_
     conv=>whnf
     refine known false rfl ?_
     conv=>whnf
     exact⟨_,by rw[←hR,outP_ok c2],rfl,rfl,rfl⟩
    |true=>
     have hk1:=nextB_yes hc
     rw[if_pos ((nextB_iff (by decide) _).1 hc),tail_drop,pText_at hk1] at hR
     conv=>whnf
     refine mcall (T:=TM parM) (φ:=[]) (gf:=false) (x_takeY (k:=k1) (ts:=opCmp) hl (by decide) hc hk1) ?_
     conv=>whnf
     refine known true rfl ?_
     cases h2:sumP e E (l.drop (k1+1)) ns1 with
     |error o=>
      rw[h2] at hR
      subst hR
      conv=>whnf
      refine .inr ?_
      exact mpan (T:=TM parM) (hS.err (by omega) (by omega) (by omega) h2) rfl
     |ok r=>
      obtain⟨j,r2,ns2⟩:=r
      rw[h2] at hR
      obtain⟨k2,rfl,d1,d2,d3,d4⟩:=hS.ok (sumP_eats hE) (sumP_grow hG hE) (by omega) (by omega) (by omega) h2
      conv=>whnf
      refine .inl ?_
      conv=>whnf
      refine mcall (T:=TM parM) (φ:=[]) (gf:=false) d4 ?_
      conv=>whnf
      refine .inl ?_
      conv=>whnf
      refine mcall (T:=TM parM) (φ:=[]) (gf:=false) (x_add (ns:=ns2) (ndM 9 l[k1].text 0 [i,j]) (show ns2.length≤1000000 by omega)) ?_
      conv=>whnf
      exact⟨_,by rw[←hR];dsimp only[addN];rw[outP_ok d2],rfl,rfl,rfl⟩
  |true=>
   have hk1:=nextB_yes hb
   first
   |exact absurd hk1 (by omega)
   | rw[if_pos rfl]
     conv=>whnf
     refine mcall (T:=TM parM) (φ:=[]) (gf:=false) (x_takeY (ts:=[wNot]) hl (by simp) hb hk1) ?_
     conv=>whnf
     refine known true rfl ?_
     have c:=ih (k+1) ns (by omega) (by omega) (by omega) (by omega)
     cases h1:notP e E (l.drop (k+1)) ns with
     | error o=>
       rw[h1] at c
       conv=>whnf
       refine .inr ?_
       exact mpan (T:=TM parM) c rfl
     | ok r=>
       obtain⟨i,r1,ns1⟩:=r
       rw[h1] at c
       have hg:=notP_grow hG hE h1
       rw[List.length_drop] at hg
       conv=>whnf
       refine .inl ?_
       conv=>whnf
       refine mcall (T:=TM parM) (φ:=[]) (gf:=false) c ?_
       conv=>whnf
       refine .inl ?_
       conv=>whnf
       refine mcall (T:=TM parM) (φ:=[]) (gf:=false) (x_add (ns:=ns1) (ndM 8 wNot 0 [i]) (show ns1.length≤1000000 by omega)) ?_
       conv=>whnf
       exact⟨_,rfl,rfl,rfl,rfl⟩
end
end Go.Proofs.YtglndfgmlminpaaGreatDoor
namespace Go.Proofs.YtglndfgmlminpaaGreatDoor
open Go.RowKit
def vqP (e:Int) (E:Pars) (r:List Tok) (ns:List Nd):PRes Int:=match E r ns with
 | .error o=> .error o
 | .ok (i,r1,ns1)=>if nextB 5 [sSc] r1 then .ok (i,r1.tail,ns1) else .error (offT e r1)
theorem valueP_eq (e:Int) (f:Nat) (kind:Int) (text:Bs) (r:List Tok) (ns:List Nd):valueP e f kind text r ns=match vqP e (exprP e f) r ns with
  | .error o=> .error o
  | .ok (i,r2,ns1)=>addN (ndM kind text 0 [i]) r2 ns1:=by
 unfold valueP vqP
 cases exprP e f r ns with
 |error o=>rfl
 |ok x=>
  obtain⟨i,r1,ns1⟩:=x
  dsimp only
  rw[nextB_one]
  unfold mustT
  by_cases h:isTk 5 sSc r1=true
  ·rw[if_pos h,if_pos h]
  ·rw[if_neg h,if_neg h]
def choiceP (_e:Int) (E Bl:Pars) (r:List Tok) (ns:List Nd):PRes Int:=match E r ns with
 | .error o=> .error o
 | .ok (c,r1,ns1)=>match Bl r1 ns1 with
  | .error o=> .error o
  | .ok (b,r2,ns2)=>
   if nextB 2 [wElse] r2 then
    (match Bl r2.tail ns2 with
    | .error o=> .error o
    | .ok (b2,r3,ns3)=>addN (ndM 15 [] 0 [c,b,b2]) r3 ns3)
   else addN (ndM 15 [] 0 [c,b]) r2 ns2
def whileP (_e:Int) (E Bl:Pars) (r:List Tok) (ns:List Nd):PRes Int:=match E r ns with
 | .error o=> .error o
 | .ok (c,r1,ns1)=>match Bl r1 ns1 with
  | .error o=> .error o
  | .ok (b,r2,ns2)=>addN (ndM 16 [] 0 [c,b]) r2 ns2
section
variable {l:List Tok} {k:Nat} {e:Int} {ns:List Nd} {fs:List Fc} {f g:Nat} {E Bl:Pars}
def outV (l:List Tok) (e:Int) (fs:List Fc):PRes Int→Except Value (V×List Bk)
 | .ok (i,r1,ns1)=> .ok (intsV [i],pM l (l.length - r1.length) e ns1 fs)
 | .error o=> .error (faultV o)
theorem x_value (hC:PC 139 E l e fs f) (hE:EatsP E) (hG:GrowP E) (hl:l.length≤1000000) (hk:k≤l.length) (hf:l.length - k<f) (hn:ns.length+(l.length - k)≤1000000):
  MEnds Tryz.prog 137 [.bx 0 0] (pM l k e ns fs) (outV l e fs (vqP e E (l.drop k) ns)):=by
 generalize hR:vqP e E (l.drop k) ns=R
 unfold vqP at hR
 refine mesx Tryz.func137 (by kernel_rfl) (by kernel_rfl) ?_
 cases h1:E (l.drop k) ns with
 |error o=>
  rw[h1] at hR
  subst hR
  conv=>whnf
  refine .inr ?_
  exact mpan (T:=TM parM) (hC.err hk hf hn h1) rfl
 |ok r=>
  obtain⟨i,r1,ns1⟩:=r
  rw[h1] at hR
  obtain⟨k1,rfl,c1,c2,c3,c4⟩:=hC.ok hE hG hk hf hn h1
  conv=>whnf
  refine .inl ?_
  conv=>whnf
  refine mcall (T:=TM parM) (φ:=[]) (gf:=false) c4 ?_
  dsimp only at hR
  cases hb:nextB 5 [sSc] (l.drop k1) with
  |false=>
   rw[if_neg (by rw[hb];simp)] at hR
   subst hR
   conv=>whnf
   refine .inr ?_
   exact mpan (T:=TM parM) (x_mustN (k:=k1) (ts:=[sSc]) hl (by simp) hb c2) rfl
  |true=>
   have hk1:=nextB_yes hb
   rw[if_pos hb] at hR
   subst hR
   conv=>whnf
   refine .inl ?_
   conv=>whnf
   refine mcall (T:=TM parM) (φ:=[]) (gf:=false) (x_mustY (k:=k1) (ts:=[sSc]) hl (by simp) hb hk1) ?_
   conv=>whnf
   refine⟨_,rfl,rfl,?_,rfl⟩
   show _=some (pM l (l.length - (l.drop k1).tail.length) e ns1 fs)
   rw[tail_drop,List.length_drop,show l.length - (l.length - (k1+1))=k1+1 by omega]
   rfl
theorem vqP_room (hE:EatsP E) (hG:GrowP E) {i:Int} {r1:List Tok} {ns1:List Nd} (h:vqP e E (l.drop k) ns= .ok (i,r1,ns1)):ns1.length+r1.length<ns.length+(l.length - k)∧r1<:+l.drop k:=by
 unfold vqP at h
 split at h
 ·cases h
 rename_i j r2 ns2 h2
 split at h
 rotate_left
 ·cases h
 rename_i hb
 cases h
 have g2:=hG h2
 have e2:=hE h2
 rw[List.length_drop] at g2
 have hne:r2≠[]:=by rintro rfl;cases hb
 have:r2.tail.length+1=r2.length:=by cases r2 with|nil=>exact absurd rfl hne|cons t r=>simp
 exact⟨by omega,(List.tail_suffix _).trans e2.suf⟩
theorem x_choice (hC:PC 139 E l e fs f) (hE:EatsP E) (hG:GrowP E) (hB:PC 56 Bl l e fs g) (hBE:EatsP Bl) (hBG:GrowP Bl) (hl:l.length≤1000000) (hk:k≤l.length) (hf:l.length - k<f) (hg:l.length - k≤g) (hn:ns.length+(l.length - k)≤999999):
  MEnds Tryz.prog 138 [.bx 0 0] (pM l k e ns fs) (outP l e fs (choiceP e E Bl (l.drop k) ns)):=by
 generalize hR:choiceP e E Bl (l.drop k) ns=R
 unfold choiceP at hR
 refine mesx Tryz.func138 (by kernel_rfl) (by kernel_rfl) ?_
 cases h1:E (l.drop k) ns with
 |error o=>
  rw[h1] at hR
  subst hR
  conv=>whnf
  refine .inr ?_
  exact mpan (T:=TM parM) (hC.err hk hf (by omega) h1) rfl
 |ok r=>
 obtain⟨c,r1,ns1⟩:=r
 rw[h1] at hR
 obtain⟨k1,rfl,c1,c2,c3,c4⟩:=hC.ok hE hG hk hf (by omega) h1
 conv=>whnf
 refine .inl ?_
 conv=>whnf
 refine mcall (T:=TM parM) (φ:=[]) (gf:=false) c4 ?_
 dsimp only at hR
 cases h2:Bl (l.drop k1) ns1 with
 |error o=>
  rw[h2] at hR
  subst hR
  conv=>whnf
  refine .inr ?_
  exact mpan (T:=TM parM) (hB.err c2 (by omega) (by omega) h2) rfl
 |ok r=>
 obtain⟨b,r2,ns2⟩:=r
 rw[h2] at hR
 obtain⟨k2,rfl,d1,d2,d3,d4⟩:=hB.ok hBE hBG c2 (by omega) (by omega) h2
 conv=>whnf
 refine .inl ?_
 conv=>whnf
 refine mcall (T:=TM parM) (φ:=[]) (gf:=false) d4 ?_
 conv=>whnf
 refine⟨of_decide_eq_true rfl,?_⟩
 dsimp only at hR
 conv=>whnf
 refine .inl ?_
 cases hb:nextB 2 [wElse] (l.drop k2) with
 |false=>
  rw[if_neg (by rw[hb];simp)] at hR
  conv=>whnf
  refine mcall (T:=TM parM) (φ:=[]) (gf:=false) (x_takeN (k:=k2) (ts:=[wElse]) hl (by simp) hb d2) ?_
  conv=>whnf
  refine known false rfl ?_
  conv=>whnf
  refine .inl ?_
  conv=>whnf
  refine mcall (T:=TM parM) (φ:=[]) (gf:=false) (x_add (ns:=ns2) (ndM 15 [] 0 [c,b]) (show ns2.length≤1000000 by omega)) ?_
  conv=>whnf
  exact⟨_,by rw[←hR,addN,outP_ok d2],rfl,rfl,rfl⟩
 |true=>
  have hk2:=nextB_yes hb
  rw[if_pos hb,tail_drop] at hR
  conv=>whnf
  refine mcall (T:=TM parM) (φ:=[]) (gf:=false) (x_takeY (k:=k2) (ts:=[wElse]) hl (by simp) hb hk2) ?_
  conv=>whnf
  refine known true rfl ?_
  cases h3:Bl (l.drop (k2+1)) ns2 with
  |error o=>
   rw[h3] at hR
   subst hR
   conv=>whnf
   refine .inr ?_
   exact mpan (T:=TM parM) (hB.err (by omega) (by omega) (by omega) h3) rfl
  |ok r=>
  obtain⟨b2,r3,ns3⟩:=r
  rw[h3] at hR
  obtain⟨k3,rfl,f1,f2,f3,f4⟩:=hB.ok hBE hBG (by omega) (by omega) (by omega) h3
  conv=>whnf
  refine .inl ?_
  conv=>whnf
  refine mcall (T:=TM parM) (φ:=[]) (gf:=false) f4 ?_
  conv=>whnf
  refine⟨of_decide_eq_true rfl,?_⟩
  conv=>whnf
  refine .inl ?_
  conv=>whnf
  refine mcall (T:=TM parM) (φ:=[]) (gf:=false) (x_add (ns:=ns3) (ndM 15 [] 0 [c,b,b2]) (show ns3.length≤1000000 by omega)) ?_
  conv=>whnf
  exact⟨_,by rw[←hR];dsimp only[addN];rw[outP_ok f2],rfl,rfl,rfl⟩
theorem x_assigns (hl:l.length≤1000000) (hk:k≤l.length):MCalls Tryz.prog 140 [.bx 0 0] (pM l k e ns fs) (boo (assigns (l.drop k))) (pM l k e ns fs):=by
 have hll:(l.map tokD).length=l.length:=List.length_map _
 refine mcx Tryz.func140 (by kernel_rfl) (by kernel_rfl) ?_
 conv=>whnf
 refine⟨none,by kernel_rfl,?_⟩
 conv=>whnf
 refine mcall (T:=TM parM) (φ:=[]) (gf:=false) (x_next 1 [] hk hl (by simp)) ?_
 cases h1:nextB 1 [] (l.drop k) with
 |false=>
  have hA:assigns (l.drop k)=false:=by
   rcases Nat.lt_or_ge k l.length with h|h
   ·rw[nextB_eq _ _ h] at h1
    rw[List.drop_eq_getElem_cons h]
    simp at h1
    simp[assigns,h1]
   ·rw[List.drop_eq_nil_of_le h];rfl
  rw[hA]
  repeat((conv=>whnf);first|refine known true rfl ?_|refine known false rfl ?_)
  conv=>whnf
  exact⟨rfl,rfl,rfl⟩
 |true=>
  have hlt:=nextB_yes h1
  have hw:IntKind.i64.wrap (((k:Nat):Int)+1)=((k+1:Nat):Int):=wrap_succ (by omega)
  have hkd:l[k].kind=1:=by rw[nextB_eq _ _ hlt] at h1;simpa using h1
  have hA:assigns (l.drop k)=isSym sEq1 (l.drop (k+1)):=by rw[List.drop_eq_getElem_cons hlt];simp[assigns,hkd]
  rw[hA]
  conv=>whnf
  refine known true rfl ?_
  conv=>whnf
  rw[hw]
  rcases Nat.lt_or_ge (k+1) l.length with h2|h2
  rotate_left
  ·rw[isSym,isTk_end _ _ h2]
   conv=>whnf
   refine known false (by simp;omega) ?_
   repeat((conv=>whnf);first|refine known true rfl ?_|refine known false rfl ?_)
   conv=>whnf
   exact⟨rfl,rfl,rfl⟩
  rw[isSym,isTk_drop _ _ h2]
  conv=>whnf
  refine known true (by simp;omega) ?_
  conv=>whnf
  rw[hw]
  conv=>whnf
  refine⟨by omega,_,get_map tokD h2,?_⟩
  conv=>whnf
  rintro(_|_) h3
  ·rw[show decide (l[k+1].kind=5)=false from by simpa using h3,Bool.false_and]
   repeat((conv=>whnf);first|refine known true rfl ?_|refine known false rfl ?_)
   conv=>whnf
   exact⟨rfl,rfl,rfl⟩
  rw[show decide (l[k+1].kind=5)=true from by simpa using h3,Bool.true_and]
  conv=>whnf
  rw[hw]
  conv=>whnf
  refine⟨by omega,_,get_map tokD h2,?_⟩
  conv=>whnf
  exact⟨rfl,rfl,by rw[show(l[k+1].text==sEq1)=((mk l[k+1].text).toList==(mk sEq1).toList) from(sEq_mk _ _).symm];rfl⟩
end
end Go.Proofs.YtglndfgmlminpaaGreatDoor
namespace Go.Proofs.YtglndfgmlminpaaGreatDoor
open Go.RowKit
def letQ (e:Int) (f:Nat) (r:List Tok) (ns:List Nd):PRes Int:=
 if nextB 1 [] r then(if nextB 5 [sEq1] r.tail then valueP e f 13 (pText r) r.tail.tail ns else .error (offT e r.tail)) else .error (offT e r)
def stmtQ (e:Int) (f:Nat) (Bl:Pars) (r:List Tok) (ns:List Nd):PRes Int:=
 if nextB 2 [wLet,wIf,wWhile,wReturn] r then
  (if pText r==wLet then letQ e f r.tail ns
  else if pText r==wIf then choiceP e (exprP e f) Bl r.tail ns
  else if pText r==wWhile then whileP e (exprP e f) Bl r.tail ns
  else valueP e f 17 [] r.tail ns)
 else if assigns r then valueP e f 14 (pText r) r.tail.tail ns
 else valueP e f 18 [] r ns
theorem letQ_eq (e:Int) (f:Nat) (r:List Tok) (ns:List Nd):(match mustK e 1 r with
  | .error o=>(.error o:PRes Int)
  | .ok (s,r1)=>match mustT e 5 sEq1 r1 with
   | .error o=> .error o
   | .ok r2=>valueP e f 13 s r2 ns)=letQ e f r ns:=by
 unfold letQ mustK mustT
 cases r with
 |nil=>simp[nextB,pKind]
 |cons t r=>
  rw[nextB_one]
  by_cases h:t.kind=1
  ·by_cases h2:isTk 5 sEq1 r=true
   ·simp[nextB,pKind,h,h2]
   ·simp[nextB,pKind,h,h2]
  ·simp[nextB,pKind,h]
theorem choice_eq (e:Int) (f:Nat) (Bl:Pars) (r:List Tok) (ns:List Nd):(match exprP e f r ns with
  | .error o=>(.error o:PRes Int)
  | .ok (c,r1,ns1)=>match Bl r1 ns1 with
   | .error o=> .error o
   | .ok (b,r2,ns2)=>
    if isWrd wElse r2 then
     (match Bl r2.tail ns2 with
     | .error o=> .error o
     | .ok (b2,r3,ns3)=>addN (ndM 15 [] 0 [c,b,b2]) r3 ns3)
    else addN (ndM 15 [] 0 [c,b]) r2 ns2)=choiceP e (exprP e f) Bl r ns:=by
 unfold choiceP
 simp only[nextB_one]
 all_goals rfl
theorem stmtP_eq (e:Int) (f:Nat) (Bl:Pars) (r:List Tok) (ns:List Nd):stmtP e f Bl r ns=stmtQ e f Bl r ns:=by
 unfold stmtP stmtQ
 cases r with
 |nil=>rfl
 |cons t r=>
  have w0:∀s,isWrd s (t::r)=(decide (t.kind=2)&&(t.text==s)):=fun s=>rfl
  have n0:nextB 2 [wLet,wIf,wWhile,wReturn] (t::r)=(decide (t.kind=2)&&[wLet,wIf,wWhile,wReturn].contains t.text):=rfl
  rw[w0,w0,w0,w0,n0]
  have p0:pText (t::r)=t.text:=rfl
  by_cases h2:t.kind=2
  ·by_cases a1:t.text=wLet
   ·rw[if_pos (by simp[h2,a1]),if_pos (by simp[h2,a1]),if_pos (by simp[p0,a1])]
    exact letQ_eq e f r ns
   rw[if_neg (by simp[a1])]
   by_cases a2:t.text=wIf
   ·rw[if_pos (by simp[h2,a2]),if_pos (by simp[h2,a2]),if_neg (by simp[p0,a1]),if_pos (by simp[p0,a2])]
    exact choice_eq e f Bl r ns
   rw[if_neg (by simp[a2])]
   by_cases a3:t.text=wWhile
   ·rw[if_pos (by simp[h2,a3]),if_pos (by simp[h2,a3]),if_neg (by simp[p0,a1]),if_neg (by simp[p0,a2]),if_pos (by simp[p0,a3])]
    rfl
   rw[if_neg (by simp[a3])]
   by_cases a4:t.text=wReturn
   ·rw[if_pos (by simp[h2,a4]),if_pos (by simp[h2,a4]),if_neg (by simp[p0,a1]),if_neg (by simp[p0,a2]),if_neg (by simp[p0,a3])]
   rw[if_neg (by simp[a4]),if_neg (show¬((decide (t.kind=2)&&[wLet,wIf,wWhile,wReturn].contains t.text)=true) by simp[a1,a2,a3,a4])]
  ·rw[if_neg (show¬((decide (t.kind=2)&&(t.text==wLet))=true) by simp[h2]),if_neg (show¬((decide (t.kind=2)&&(t.text==wIf))=true) by simp[h2]),if_neg (show¬((decide (t.kind=2)&&(t.text==wWhile))=true) by simp[h2]),if_neg (show¬((decide (t.kind=2)&&(t.text==wReturn))=true) by simp[h2]),if_neg (show¬((decide (t.kind=2)&&[wLet,wIf,wWhile,wReturn].contains t.text)=true) by simp[h2])]
end Go.Proofs.YtglndfgmlminpaaGreatDoor
