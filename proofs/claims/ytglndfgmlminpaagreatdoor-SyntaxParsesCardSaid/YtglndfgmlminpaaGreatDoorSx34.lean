/- Texts joined by pack.py: XSyM XSyQ XSyR XSxFz XSyS XSxDf -/
import Derived.Test.YtglndfgmlminpaaGreatDoorSx31
import Derived.Test.YtglndfgmlminpaaGreatDoorSx33
import Derived.Test.YtglndfgmlminpaaGreatDoorSx32
import Derived.Test.YtglndfgmlminpaaGreatDoorSx30
import Derived.Test.YtglndfgmlminpaaGreatDoorSx25
import Derived.Test.YtglndfgmlminpaaGreatDoorSx27
import Derived.Recover
set_option maxHeartbeats 16000000
set_option maxRecDepth 100000
namespace Go.Proofs.YtglndfgmlminpaaGreatDoor
open Go.RowKit
section
variable {l:List Tok} {e:Int} {fs:List Fc}
theorem x_expr (hl:l.length≤1000000):∀f,PC 139 (exprP e f) l e fs f
 |0=>fun k ns _ h=>absurd h (Nat.not_lt_zero _)
 |f+1=>by
  have hC:=x_expr hl f
  have hE:EatsP (exprP e f):=exprP_eats f
  have hG:GrowP (exprP e f):=exprP_grow f
  have hA:AtP e (exprP e f):=exprP_at f
  have h1:=x_prim hC hE hG hA hl
  have h2:=x_post h1 hC hE hG hl
  have h3:PC 249 (unaryP e (exprP e f)) l e fs (f+1):=fun k ns hk hf hn=>x_unary h2 hE hG hl _ k ns (Nat.le_refl _) hk hf hn
  have h4:=x_term h3 hE hG hl
  have h5:=x_sum h4 hE hG hl
  have h6:PC 201 (notP e (exprP e f)) l e fs (f+1):=fun k ns hk hf hn=>x_not h5 hE hG hl _ k ns (Nat.le_refl _) hk hf hn
  have h7:=x_and h6 hE hG hl
  exact x_expr1 h7 hE hG hl
end
end Go.Proofs.YtglndfgmlminpaaGreatDoor
namespace Go.Proofs.YtglndfgmlminpaaGreatDoor
open Go.RowKit
section
variable {l:List Tok} {e:Int} {fs:List Fc} {f:Nat} {S:Pars}
theorem x_block1 (hS:PC 97 S l e fs f) (hE:EatsP S) (hG:GrowP S) (hl:l.length≤1000000):PC 56 (fun r ns=>match mustT e 5 sLC r with
  | .error o=> .error o
  | .ok r1=>stmtsF e S (r1.length+1) [] r1 ns) l e fs f:=by
 intro k ns hk hf hn
 dsimp only
 rw[mustT_drop,←nextB_one]
 refine mesx Tryz.func56 (by kernel_rfl) (by kernel_rfl) ?_
 cases h0:nextB 5 [sLC] (l.drop k) with
 |false=>
  rw[if_neg (by simp)]
  conv=>whnf
  refine .inr ?_
  exact mpan (T:=TM parM) (x_mustN (ts:=[sLC]) hl (by simp) h0 hk) rfl
 |true=>
 have hlt:=nextB_yes h0
 rw[if_pos rfl]
 dsimp only
 generalize hR:stmtsF e S ((l.drop (k+1)).length+1) [] (l.drop (k+1)) ns=R
 rw[List.length_drop] at hR
 conv=>whnf
 refine .inl ?_
 conv=>whnf
 refine mcall (T:=TM parM) (φ:=[]) (gf:=false) (x_mustY (ts:=[sLC]) hl (by simp) h0 hlt) ?_
 conv=>whnf
 refine⟨[(3,41,3,1)],Nat×List Nd×List Int,fun _=>[(3,.ow 41 0)],fun⟨k,ns,ks⟩=>[(25,some (pBox l k e 26 27)),(26,some (nRow ns)),(27,some (fRow fs)),(41,some (iRow true ks))],
  fun⟨k2,ns,ks⟩=>k+1≤k2∧k2≤l.length∧ns.length+(l.length - k2)≤999999∧ks.length+(l.length - k2)≤1000000∧∃f',l.length - k2<f'∧stmtsF e S f' ks (l.drop k2) ns=R,fun x=>l.length - x.1,(k+1,ns,[]),⟨Nat.le_refl _,hlt,by omega,by simp;omega,_,Nat.lt_succ_self _,hR⟩,?_,?_⟩
 ·refine⟨rfl,?_,?_⟩<;>repeat' (first|exact trivial|exact rfl|refine and_rfl ?_|refine and_two ?_ ?_)
 clear hR hn
 rintro⟨k2,ns,ks⟩ ⟨b0,b1,b2,b3,f',b4,b5⟩
 obtain⟨f',rfl⟩:∃g,f'=g+1:=⟨f' - 1,by omega⟩
 unfold stmtsF at b5
 conv=>whnf
 refine .inl ?_
 cases hb:nextB 5 [sRC] (l.drop k2) with
 |true=>
  have hk2:=nextB_yes hb
  rw[if_pos (by rw[isSym,←nextB_one,hb]),tail_drop] at b5
  conv=>whnf
  refine mcall (T:=TM parM) (φ:=[]) (gf:=false) (x_takeY (k:=k2) (ts:=[sRC]) hl (by simp) hb hk2) ?_
  conv=>whnf
  refine known true rfl ?_
  conv=>whnf
  refine .inl ?_
  conv=>whnf
  refine mcall (T:=TM parM) (φ:=[]) (gf:=false) (x_add (ns:=ns) (ndM 19 [] 0 ks) (show ns.length≤1000000 by omega)) ?_
  conv=>whnf
  exact⟨_,by rw[←b5,addN,outP_ok (by omega)],rfl,rfl,rfl⟩
 |false=>
  rw[if_neg (by rw[isSym,←nextB_one,hb];simp)] at b5
  conv=>whnf
  refine mcall (T:=TM parM) (φ:=[]) (gf:=false) (x_takeN (k:=k2) (ts:=[sRC]) hl (by simp) hb b1) ?_
  conv=>whnf
  refine known false rfl ?_
  cases h1:S (l.drop k2) ns with
  |error o=>
   rw[h1] at b5
   subst b5
   conv=>whnf
   refine .inr ?_
   exact mpan (T:=TM parM) (hS.err b1 (by omega) (by omega) h1) rfl
  |ok r=>
   obtain⟨i,r1,ns1⟩:=r
   rw[h1] at b5
   obtain⟨k3,rfl,d1,d2,d3,d4⟩:=hS.ok hE hG b1 (by omega) (by omega) h1
   conv=>whnf
   refine .inl ?_
   conv=>whnf
   refine mcall (T:=TM parM) (φ:=[]) (gf:=false) d4 ?_
   conv=>whnf
   refine⟨by rw[List.length_map];show(ks.length+1)*8≤_;omega,?_⟩
   conv=>whnf
   refine⟨(k3,ns1,ks++[i]),⟨by omega,d2,by omega,by rw[List.length_append];simp;omega,f',by omega,b5⟩,by dsimp only;omega,?_⟩
   refine⟨rfl,?_,?_⟩<;>repeat' (first|exact trivial|exact rfl|refine and_rfl ?_|refine and_two ?_ ?_|(simp[intD];done))
theorem x_block (hl:l.length≤1000000):∀f,PC 56 (blockP e f) l e fs f
 |0=>fun k ns _ h=>absurd h (Nat.not_lt_zero _)
 |f+1=>by
  have hX:=x_expr (e:=e) (fs:=fs) hl (f+1)
  have hB:=x_block hl f
  have hBE:EatsP (blockP e f):=blockP_eats f
  have hBG:GrowP (blockP e f):=blockP_grow f
  have hS:=x_stmt hX hB rfl hBE hBG hl
  exact x_block1 hS (stmtP_eats hBE) (stmtP_grow hBG) hl
end
end Go.Proofs.YtglndfgmlminpaaGreatDoor
namespace Go.Proofs.YtglndfgmlminpaaGreatDoor
open Go.RowKit
section
variable {l:List Tok} {k:Nat} {e:Int} {ns:List Nd} {fs:List Fc} {nm:Bs} {ps:List Bs}
abbrev fM (l:List Tok) (k:Nat) (e:Int) (ns:List Nd) (fs:List Fc) (nm:Bs) (ps:List Bs):List Bk:=
 [.box [bstr nm,.ow 1 0,int 0],sRow false ps,.box [.bx 3 0],pBox l k e 4 5,nRow ns,fRow fs]
theorem x_pitemY (hb:nextB 1 [] (l.drop k)=true) (hk:k<l.length) (hl:l.length≤1000000) (hps:ps.length≤1000000):
  MCalls Tryz.prog 55 [.bx 0 0,.bx 2 0] (fM l k e ns fs nm ps) (.tu []) (fM l (k+1) e ns fs nm (ps++[l[k].text])):=by
 have e1:fM l (k+1) e ns fs nm (ps++[l[k].text])=[.box [bstr nm,.ow 1 0,int 0],.row 0 9 1 false (ps.map strD++[strD l[k].text]),.box [.bx 3 0],pBox l (k+1) e 4 5,nRow ns,fRow fs]:=by simp only[fM,sRow,List.map_append,List.map_cons,List.map_nil]
 refine mcx Tryz.func55 (by kernel_rfl) (by kernel_rfl) ?_
 conv=>whnf
 refine⟨some planK1,by kernel_rfl,?_⟩
 conv=>whnf
 refine⟨.bx 10 1,fun m2 K2 hK=>hK,?_⟩
 conv=>whnf
 refine⟨?_,?_,trivial⟩
 all_goals
  conv=>whnf
  try refine⟨?_,trivial⟩
  conv=>whnf
  refine mcall (T:=TM parM) (φ:=[]) (gf:=false) (x_mustY (ts:=[]) hl (by simp) hb hk) ?_
  conv=>whnf
  refine⟨by rw[List.length_map];show(ps.length+1)*16≤_;omega,?_⟩
  conv=>whnf
  exact⟨rfl,by rw[e1];rfl,rfl⟩
theorem x_pitemN (hb:nextB 1 [] (l.drop k)=false) (hk:k≤l.length) (hl:l.length≤1000000):
  MPans Tryz.prog 55 [.bx 0 0,.bx 2 0] (fM l k e ns fs nm ps) (faultV (offT e (l.drop k))):=by
 refine mpsx Tryz.func55 (by kernel_rfl) (by kernel_rfl) ?_
 conv=>whnf
 refine⟨some planK1,by kernel_rfl,?_⟩
 conv=>whnf
 refine⟨.bx 10 1,fun m2 K2 hK=>hK,?_⟩
 conv=>whnf
 refine⟨?_,?_,trivial⟩
 all_goals
  conv=>whnf
  try refine⟨?_,trivial⟩
  conv=>whnf
  refine .inr ?_
  exact mpan (T:=TM parM) (x_mustN (ts:=[]) hl (by simp) hb hk) rfl
abbrev qM0 (l:List Tok) (k:Nat) (e:Int) (ns:List Nd) (fs:List Fc) (nm:Bs):List Bk:=[pBox l k e 1 2,nRow ns,fRow fs,.box [bstr nm,.cv (.slice none 0 0),int 0],.box [.bx 0 0]]
abbrev qM1 (l:List Tok) (k:Nat) (e:Int) (ns:List Nd) (fs:List Fc) (nm:Bs) (ps:List Bs):List Bk:=[pBox l k e 1 2,nRow ns,fRow fs,.box [bstr nm,.ow 5 0,int 0],.box [.bx 0 0],sRow true ps]
abbrev itemP:V:= .fn 55 0 [.bx 3 0,.bx 4 0]
theorem x_plist0 (hl:l.length≤1000000) (h:isSym sRP (l.drop k)=true):
  MCalls Tryz.prog 54 [.bx 0 0,bstr sRP,itemP] (qM0 l k e ns fs nm) (.tu []) (qM0 l (k+1) e ns fs nm):=by
 have hb:nextB 5 [sRP] (l.drop k)=true:=by rw[nextB_one];exact h
 refine mcx Tryz.func54 (by kernel_rfl) (by kernel_rfl) ?_
 conv=>whnf
 refine mcall (T:=TM parM) (φ:=[]) (gf:=false) (x_takeY hl (by simp) hb (nextB_yes hb)) ?_
 conv=>whnf
 refine known true rfl ?_
 conv=>whnf
 exact⟨rfl,rfl,rfl⟩
def outQ (l:List Tok) (e:Int) (ns:List Nd) (fs:List Fc) (nm:Bs):Except Int (List Bs×List Tok)→Except Value (V×List Bk)
 | .ok (ps,r1)=> .ok (.tu [],qM1 l (l.length - r1.length) e ns fs nm ps)
 | .error o=> .error (faultV o)
theorem outQ_ok {k1:Nat} (hk:k1≤l.length):outQ l e ns fs nm (.ok (ps,l.drop k1))= .ok (.tu [],qM1 l k1 e ns fs nm ps):=by
 simp only[outQ,List.length_drop]
 rw[show l.length - (l.length - k1)=k1 by omega]
theorem mustK_next:mustK e 1 (l.drop k)=if nextB 1 [] (l.drop k) then .ok (pText (l.drop k),l.drop (k+1)) else .error (offT e (l.drop k)):=by
 unfold mustK
 rw[tail_drop]
 rcases Nat.lt_or_ge k l.length with h|h
 ·rw[List.drop_eq_getElem_cons h]
  by_cases h1:l[k].kind=1
  ·simp[pKind,nextB,h1,h]
  ·simp[pKind,nextB,h1]
 ·rw[List.drop_eq_nil_of_le h];simp[pKind,nextB]
theorem x_plist1 (hl:l.length≤1000000) (hk:k≤l.length) (h:isSym sRP (l.drop k)=false):
  MEnds Tryz.prog 54 [.bx 0 0,bstr sRP,itemP] (qM0 l k e ns fs nm) (outQ l e ns fs nm (parF e (l.length - k) [] (l.drop k))):=by
 have hb:nextB 5 [sRP] (l.drop k)=false:=by rw[nextB_one];exact h
 generalize hR:parF e (l.length - k) [] (l.drop k)=R
 refine mesx Tryz.func54 (by kernel_rfl) (by kernel_rfl) ?_
 conv=>whnf
 refine .inl ?_
 conv=>whnf
 refine mcall (T:=TM parM) (φ:=[]) (gf:=false) (x_takeN hl (by simp) hb hk) ?_
 conv=>whnf
 refine known false rfl ?_
 conv=>whnf
 refine⟨[(1030001,43,9,1)],Nat×List Bs,fun _=>[],fun⟨k,ps⟩=>[(27,some (pBox l k e 28 29)),(28,some (nRow ns)),(29,some (fRow fs)),(43,some (sRow true ps))],
  fun⟨k2,ps⟩=>k≤k2∧k2≤l.length∧ps.length+(l.length - k2)≤1000000∧∃f',l.length - k2≤f'∧parF e f' ps (l.drop k2)=R,fun x=>l.length - x.1,(k,[]),⟨Nat.le_refl _,hk,by simp;omega,_,Nat.le_refl _,hR⟩,?_,?_⟩
 ·refine⟨rfl,?_,?_⟩<;>repeat' (first|exact trivial|exact rfl|refine and_rfl ?_|refine and_two ?_ ?_)
 clear hR hb h
 rintro⟨k2,ps⟩ ⟨b0,b1,b3,f',b4,b5⟩
 cases hi:nextB 1 [] (l.drop k2) with
 |false=>
  have hR:R= .error (offT e (l.drop k2)):=by
   rw[←b5]
   cases f' with
   |zero=>rfl
   |succ f'=>unfold parF;rw[mustK_next,hi];rfl
  subst hR
  conv=>whnf
  refine .inr ?_
  exact mpan (T:=TM parM) (x_pitemN hi b1 hl) rfl
 |true=>
  have hlt:=nextB_yes hi
  obtain⟨f',rfl⟩:∃g,f'=g+1:=⟨f' - 1,by omega⟩
  unfold parF at b5
  rw[mustK_next,if_pos hi,pText_at hlt] at b5
  dsimp only at b5
  conv=>whnf
  refine .inl ?_
  conv=>whnf
  refine mcallR (T:=TM parM) (φ:=[]) (gf:=false) 43 (x_pitemY (ps:=ps) (nm:=nm) hi hlt hl (by omega)) (flatS _) ?_
  cases hb:nextB 5 [sCm,sRP] (l.drop (k2+1)) with
  |false=>
   have hR:R= .error (offT e (l.drop (k2+1))):=by
    rw[nextB_two,Bool.or_eq_false_iff] at hb
    rw[←b5,if_neg (by rw[show isSym sRP (l.drop (k2+1))=false from hb.2];simp),if_neg (by rw[show isSym sCm (l.drop (k2+1))=false from hb.1];simp)]
   subst hR
   conv=>whnf
   refine .inr ?_
   exact mpan (T:=TM parM) (x_mustN (k:=k2+1) hl (by simp) hb hlt) rfl
  |true=>
   have hk3:=nextB_yes hb
   conv=>whnf
   refine .inl ?_
   conv=>whnf
   refine mcall (T:=TM parM) (φ:=[]) (gf:=false) (x_mustY (k:=k2+1) hl (by simp) hb hk3) ?_
   have hkd:l[k2+1].kind=5:=by
    rw[nextB_eq _ _ hk3] at hb
    simp at hb
    exact hb.1
   conv=>whnf
   rintro(_|_) h3
   ·have h3:(l[k2+1].text==sRP)=false:=(sEq_mk _ _).symm.trans h3
    have h4:isSym sCm (l.drop (k2+1))=true:=by
     have h5:isTk 5 sRP (l.drop (k2+1))=false:=by rw[isTk_drop _ _ hk3,h3,Bool.and_false]
     rw[nextB_two,h5,Bool.or_false] at hb
     exact hb
    rw[if_neg (by rw[show isSym sRP (l.drop (k2+1))=false by rw[isSym,isTk_drop _ _ hk3,h3,Bool.and_false]];simp),if_pos h4,tail_drop] at b5
    conv=>whnf
    refine⟨(k2+1+1,ps++[l[k2].text]),⟨by omega,by omega,by rw[List.length_append];simp;omega,f',by omega,b5⟩,by dsimp only;omega,?_⟩
    refine⟨rfl,?_,?_⟩<;>repeat' (first|exact trivial|exact rfl|refine and_rfl ?_|refine and_two ?_ ?_)
   ·have h3:(l[k2+1].text==sRP)=true:=(sEq_mk _ _).symm.trans h3
    rw[if_pos (show isSym sRP (l.drop (k2+1))=true by rw[isSym,isTk_drop _ _ hk3,h3,hkd];rfl),tail_drop] at b5
    conv=>whnf
    exact⟨_,by rw[←b5,outQ_ok (by omega)],rfl,rfl,rfl⟩
end
end Go.Proofs.YtglndfgmlminpaaGreatDoor
namespace Go.Proofs.YtglndfgmlminpaaGreatDoor
open Go.RowKit
section
variable {P:Program} {T:Tab}
theorem op_frz {o:Oper} {E:Operand→V} {m m':List (Option Bk)} {v:V} {n k b i E1 sz:Nat} {xs:List (List D)} {cs:List V} (h:OpTr P o E m v m') (hm:m'[n]?=some (some (.row k E1 sz true xs)))
  (hb:m'[b]?=some (some (.box cs))) (hi:cs[i]?=some (.ow n k)):OpTr P o E m v ((m'.set n (some (.row (k+1) E1 sz true []))).set b (some (.box (cs.set i (.sl true sz xs))))):=by
 intro B w0 N S t a w hs hx Q
 refine Oper.wp_mono' (h B w0 N S t a w hs hx Q) ?_
 rintro a' w' ⟨u,he,N1,S1,h1,hr⟩
 obtain⟨N2,S2,h2,r2,s2,b2⟩:=h1.freeze hm
 have hnb:n≠b:=by rintro rfl;rw[hm] at hb;cases hb
 have hb2:(m'.set n (some (.row (k+1) E1 sz true [])))[b]?=some (some (.box cs)):=by rw[List.getElem?_set_ne hnb];exact hb
 have hlt:=lt_of_get hb2
 refine⟨u,he,N2,S2,⟨h2.low,h2.nodef,h2.tmps,fun j b' hj=>?_,fun j hj=>?_,h2.apart,h2.data,h2.fresh,h2.own,h2.base,h2.old,h2.lent,h2.more,h2.stay⟩,r2 _ _ hr⟩
 ·by_cases hjb:j=b
  ·subst hjb
   rw[List.getElem?_set_self hlt] at hj
   cases hj
   obtain⟨g,ty,us,e1,e2,e3,e4⟩:=h2.blk j _ hb2
   refine⟨g,ty,us,e1,e2,by rw[List.length_set];exact e3,fun q v' hq=>?_⟩
   by_cases hqi:q=i
   ·subst hqi
    have hql:=lt_of_get hi
    rw[List.getElem?_set_self hql] at hq
    cases hq
    obtain⟨g1,ty1,us1,c1,c2,c3,c4⟩:=h1.blk j _ hb
    have hg:g1=g∧us1=us:=by
     have hn1:N2 j=some (0,.pointer (some ⟨g1,0,none⟩)):=by
      have:=r2 (.bx j 0) (.pointer (some ⟨g1,0,none⟩)) (.bx j 0 g1 c1)
      cases this with
      |bx _ _ _ hn=>exact hn
     rw[e1] at hn1
     have hgg:g1=g:=by cases hn1;rfl
     subst hgg
     rw[c2] at e2
     cases e2
     exact⟨rfl,rfl⟩
    obtain⟨rfl,rfl⟩:=hg
    exact .sl _ _ _ _ (ow_data h1 hm (c4 q _ hi) (fun g hg=>s2 true g hg) fun v0 h0 g hg=>b2 v0 h0 true g hg)
   ·rw[List.getElem?_set_ne (Ne.symm hqi)] at hq
    exact e4 q v' hq
  ·rw[List.getElem?_set_ne (Ne.symm hjb)] at hj
   exact h2.blk j b' hj
 ·by_cases hjb:j=b
  ·subst hjb
   exact absurd (List.getElem?_set_self hlt) (hj _)
  ·exact h2.non j fun b' hb'=>hj b' (by rw[List.getElem?_set_ne (Ne.symm hjb)];exact hb')
theorem mcallZ {st:Bool} {o:Oper} {E:Operand→V} {c:Call} {f:FuncId} {pre post av:List V} {m m1 m3:List (Option Bk)} {ρ φ:List Nat} {gf:Bool} {m0 m2:List Bk} {args0:List V} {res:V} {K:V→List (Option Bk)→Prop} {k E1 sz:Nat} {xs:List (List D)} {cs:List V} (n b i:Nat) (hM:MCallsG st P f args0 m0 res m2)
  (hK:(res.co3 st (ρ++φ) m1 gf).k fun v=>forceM ((m3.set n (some (.row (k+1) E1 sz true []))).set b (some (.box (cs.set i (.sl true sz xs))))) fun m'=>K v m')
  (ln:Bool:=false) (ho:o.op= .call c:=by exact rfl) (hc:calleeV E c=some (f,pre,post):=by exact rfl) (hz:frzB ln m (pre++zA T E c.args.toList c.argTypes.toList++post)=some (av,m1):=by exact rfl)
  (_hr:(reach m1 64 (av.flatMap V.nm3) []).reverse=ρ:=by exact rfl) (hg:(av.all V.fl&&flM m1 ρ)=gf:=by exact rfl) (hab:abM ρ m1 ρ=some m0:=by exact rfl) (ha0:av.map (V.ab ρ m1)=args0:=by exact rfl)
  (hchk:(distinctB (ρ++φ)&&(freeB m1 φ&&(kindB m1 ρ m2&&Nat.beq (ρ.length+φ.length) m2.length)))=true:=by exact rfl)
  (h3:putM (fun n b=>b.co st (ρ++φ) m1 gf n) (ρ++φ) m2 m1=m3:=by exact rfl)
  (hm:m3[n]?=some (some (.row k E1 sz true xs)):=by exact rfl) (hb:m3[b]?=some (some (.box cs)):=by exact rfl) (hi:cs[i]?=some (.ow n k):=by exact rfl):
  ∃v m',OpTr P o E m v m'∧v.k fun v=>forceM m' fun m'=>K v m':=
 ⟨_,_,op_frz (by rw[←h3];exact op_mcall (T:=T) ho hc hz hg hab ha0 hM hchk) hm hb hi,hK⟩
theorem op_nil {o:Oper} {E:Operand→V} {m m':List (Option Bk)} {v:V} {b i sz:Nat} {cs:List V} (h:OpTr P o E m v m')
  (hb:m'[b]?=some (some (.box cs))) (hi:cs[i]?=some (.cv (.slice none 0 0))):OpTr P o E m v (m'.set b (some (.box (cs.set i (.sl true sz []))))):=by
 intro B w0 N S t a w hs hx Q
 refine Oper.wp_mono' (h B w0 N S t a w hs hx Q) ?_
 rintro a' w' ⟨u,he,N1,S1,h1,hr⟩
 have hlt:=lt_of_get hb
 refine⟨u,he,N1,S1,⟨h1.low,h1.nodef,h1.tmps,fun j b' hj=>?_,fun j hj=>?_,h1.apart,h1.data,h1.fresh,h1.own,h1.base,h1.old,h1.lent,h1.more,h1.stay⟩,hr⟩
 ·by_cases hjb:j=b
  ·subst hjb
   rw[List.getElem?_set_self hlt] at hj
   cases hj
   obtain⟨g,ty,us,e1,e2,e3,e4⟩:=h1.blk j _ hb
   refine⟨g,ty,us,e1,e2,by rw[List.length_set];exact e3,fun q v' hq=>?_⟩
   by_cases hqi:q=i
   ·subst hqi
    rw[List.getElem?_set_self (lt_of_get hi)] at hq
    cases hq
    have:=e4 q _ hi
    generalize us.getD q undef=z at this⊢
    cases this
    exact .sl _ _ _ _ (.nil _ _ _)
   ·rw[List.getElem?_set_ne (Ne.symm hqi)] at hq
    exact e4 q v' hq
  ·rw[List.getElem?_set_ne (Ne.symm hjb)] at hj
   exact h1.blk j b' hj
 ·by_cases hjb:j=b
  ·subst hjb
   exact absurd (List.getElem?_set_self hlt) (hj _)
  ·exact h1.non j fun b' hb'=>hj b' (by rw[List.getElem?_set_ne (Ne.symm hjb)];exact hb')
theorem mcallN {st:Bool} {o:Oper} {E:Operand→V} {c:Call} {f:FuncId} {pre post av:List V} {m m1 m3:List (Option Bk)} {ρ φ:List Nat} {gf:Bool} {m0 m2:List Bk} {args0:List V} {res:V} {K:V→List (Option Bk)→Prop} {cs:List V} (b i sz:Nat) (hM:MCallsG st P f args0 m0 res m2)
  (hK:(res.co3 st (ρ++φ) m1 gf).k fun v=>forceM (m3.set b (some (.box (cs.set i (.sl true sz []))))) fun m'=>K v m')
  (ln:Bool:=false) (ho:o.op= .call c:=by exact rfl) (hc:calleeV E c=some (f,pre,post):=by exact rfl) (hz:frzB ln m (pre++zA T E c.args.toList c.argTypes.toList++post)=some (av,m1):=by exact rfl)
  (_hr:(reach m1 64 (av.flatMap V.nm3) []).reverse=ρ:=by exact rfl) (hg:(av.all V.fl&&flM m1 ρ)=gf:=by exact rfl) (hab:abM ρ m1 ρ=some m0:=by exact rfl) (ha0:av.map (V.ab ρ m1)=args0:=by exact rfl)
  (hchk:(distinctB (ρ++φ)&&(freeB m1 φ&&(kindB m1 ρ m2&&Nat.beq (ρ.length+φ.length) m2.length)))=true:=by exact rfl)
  (h3:putM (fun n b=>b.co st (ρ++φ) m1 gf n) (ρ++φ) m2 m1=m3:=by exact rfl)
  (hb:m3[b]?=some (some (.box cs)):=by exact rfl) (hi:cs[i]?=some (.cv (.slice none 0 0)):=by exact rfl):
  ∃v m',OpTr P o E m v m'∧v.k fun v=>forceM m' fun m'=>K v m':=
 ⟨_,_,op_nil (by rw[←h3];exact op_mcall (T:=T) ho hc hz hg hab ha0 hM hchk) hb hi,hK⟩
end
end Go.Proofs.YtglndfgmlminpaaGreatDoor
namespace Go.Proofs.YtglndfgmlminpaaGreatDoor
open Go.RowKit
section
variable {l:List Tok} {e:Int} {f:Nat}
def outG (l:List Tok) (e:Int):Except Int Pg→Except Value (V×List Bk)
 | .ok p=> .ok (.tu [],pM l l.length e p.nodes p.funcs)
 | .error o=> .error (faultV o)
def planF:Plan:= .one 1 (.one 2 (.one 3 (.one 4 (.one 5 (.one 6 (.alt 0 (.one 7 (.one 8 (.one 9 (.one 10 (.one 11 (.one 12 .done)))))) (.alt 7 (.alt 0 (.one 8 (.one 9 (.one 10 (.one 11 (.one 12 .done))))) (.alt 8 (.one 0 (.one 9 (.one 10 (.one 11 (.one 12 .done))))) .stop)) .stop)))))))
theorem parP_room {k:Nat} {ps:List Bs} {r1:List Tok} (h:parP e (l.drop k)= .ok (ps,r1)):r1.length<l.length - k∧r1<:+l.drop k:=by
 have h1:=parP_eats h
 have:=h1.lt
 rw[List.length_drop] at this
 exact⟨this,h1.suf⟩
theorem x_program (hl:l.length≤1000000) (h0:l.length≤100000):MEnds Tryz.prog 26 [.bx 0 0] [.box [.sl false 4 (l.map tokD),int 0,int e,.cv (.slice none 0 0),.cv (.slice none 0 0)]] (outG l e (progF e (l.length+1) l.length [] l [])):=by
 have hll:(l.map tokD).length=l.length:=List.length_map _
 have hB:∀fs,PC 56 (blockP e (l.length+1)) l e fs (l.length+1):=fun fs=>x_block hl _
 have hBE:EatsP (blockP e (l.length+1)):=blockP_eats _
 have hBG:GrowP (blockP e (l.length+1)):=blockP_grow _
 generalize hR:progF e (l.length+1) l.length [] l []=R
 refine mesx Tryz.func26 (by kernel_rfl) (by kernel_rfl) ?_
 conv=>whnf
 refine⟨[(1041003,58,58,5),(1041004,59,53,3)],Nat×List Nd×List Fc,fun _=>[],fun⟨k,ns,fs⟩=>[(41,some (pBox l k e 58 59)),(58,some (nRow ns)),(59,some (fRow fs)),(60,none)],
  fun⟨k,ns,fs⟩=>k≤l.length∧ns.length+(l.length - k)≤100000∧fs.length+(l.length - k)≤100000∧∃f',l.length - k≤f'∧progF e (l.length+1) f' fs (l.drop k) ns=R,fun x=>l.length - x.1,(0,[],[]),⟨Nat.zero_le _,by simp;omega,by simp;omega,_,Nat.le_of_eq (Nat.sub_zero _),hR⟩,?_,?_⟩
 ·refine⟨rfl,?_,?_⟩<;>repeat' (first|exact trivial|exact rfl|refine and_rfl ?_|refine and_two ?_ ?_)
 clear hR
 rintro⟨k,ns,fs⟩ ⟨b1,b2,b3,f',b4,b5⟩
 conv=>whnf
 refine⟨none,by kernel_rfl,?_⟩
 rcases Nat.lt_or_ge k l.length with hlt|hge
 rotate_left
 ·have hd:l.drop k=[]:=List.drop_eq_nil_of_le hge
  have hk:k=l.length:=by omega
  have hR:R= .ok ⟨ns,fs⟩:=by
   rw[←b5,hd]
   cases f' with
   |zero=>rfl
   |succ f'=>unfold progF;rw[if_pos rfl]
  conv=>whnf
  refine known false (by rw[hll];simp;omega) ?_
  conv=>whnf
  subst hk
  exact⟨_,by rw[hR];rfl,rfl,rfl,rfl⟩
 conv=>whnf
 refine known true (by rw[hll];simp;omega) ?_
 obtain⟨f',rfl⟩:∃g,f'=g+1:=⟨f' - 1,by omega⟩
 unfold progF at b5
 rw[if_neg (List.ne_nil_of_length_pos (by rw[List.length_drop];omega)),funcP,mustT_drop,←nextB_one] at b5
 cases h1:nextB 2 [wFunc] (l.drop k) with
 |false=>
  rw[h1] at b5
  simp only[Bool.false_eq_true,if_false] at b5
  subst b5
  conv=>whnf
  refine .inr ?_
  exact mpan (T:=TM parM) (x_mustN (fs:=fs) (ts:=[wFunc]) hl (by simp) h1 b1) rfl
 |true=>
 rw[h1] at b5
 simp only[if_true] at b5
 conv=>whnf
 refine .inl ?_
 conv=>whnf
 refine mcall (T:=TM parM) (φ:=[]) (gf:=false) (x_mustY (fs:=fs) (ts:=[wFunc]) hl (by simp) h1 hlt) ?_
 rw[mustK_next] at b5
 cases h2:nextB 1 [] (l.drop (k+1)) with
 |false=>
  rw[h2] at b5
  simp only[Bool.false_eq_true,if_false] at b5
  subst b5
  conv=>whnf
  refine .inr ?_
  exact mpan (T:=TM parM) (x_mustN (k:=k+1) (fs:=fs) (ts:=[]) hl (by simp) h2 hlt) rfl
 |true=>
 have hlt2:=nextB_yes h2
 rw[h2] at b5
 simp only[if_true] at b5
 rw[pText_at hlt2,mustT_drop,←nextB_one] at b5
 conv=>whnf
 refine .inl ?_
 conv=>whnf
 refine mcall (T:=TM parM) (φ:=[]) (gf:=false) (x_mustY (k:=k+1) (fs:=fs) (ts:=[]) hl (by simp) h2 hlt2) ?_
 cases h3:nextB 5 [sLP] (l.drop (k+1+1)) with
 |false=>
  rw[h3] at b5
  simp only[Bool.false_eq_true,if_false] at b5
  subst b5
  conv=>whnf
  refine .inr ?_
  exact mpan (T:=TM parM) (x_mustN (k:=k+1+1) (fs:=fs) (ts:=[sLP]) hl (by simp) h3 hlt2) rfl
 |true=>
 have hlt3:=nextB_yes h3
 rw[h3] at b5
 simp only[if_true] at b5
 conv=>whnf
 refine .inl ?_
 conv=>whnf
 refine mcall (T:=TM parM) (φ:=[]) (gf:=false) (x_mustY (k:=k+1+1) (fs:=fs) (ts:=[sLP]) hl (by simp) h3 hlt3) ?_
 cases h4:isSym sRP (l.drop (k+1+1+1)) with
 |true=>
  have hlt4:k+1+1+1<l.length:=nextB_yes (K:=5) (ts:=[sRP]) (by rw[nextB_one];exact h4)
  have hp:parP e (l.drop (k+1+1+1))= .ok ([],l.drop (k+1+1+1+1)):=by unfold parP;rw[if_pos h4,tail_drop]
  rw[hp] at b5
  dsimp only at b5
  conv=>whnf
  refine .inl ?_
  conv=>whnf
  refine mcallN (T:=TM parM) (φ:=[]) (gf:=false) 2 1 1 (x_plist0 (k:=k+1+1+1) (ns:=ns) (fs:=fs) (nm:=l[k+1].text) hl h4) ?_
  cases h5:blockP e (l.length+1) (l.drop (k+1+1+1+1)) ns with
  |error o=>
   rw[h5] at b5
   subst b5
   conv=>whnf
   refine .inr ?_
   exact mpan (T:=TM parM) ((hB fs).err (by omega) (by omega) (by omega) h5) rfl
  |ok r=>
  obtain⟨b,r5,ns5⟩:=r
  rw[h5] at b5
  obtain⟨k5,rfl,d1,d2,d3,d4⟩:=(hB fs).ok hBE hBG (by omega) (by omega) (by omega) h5
  conv=>whnf
  refine .inl ?_
  conv=>whnf
  refine mcall (T:=TM parM) (φ:=[]) (gf:=false) d4 ?_
  conv=>whnf
  refine⟨some planF,by kernel_rfl,?_⟩
  conv=>whnf
  refine⟨?_,?_,trivial⟩
  rotate_left
  ·conv=>whnf
   refine⟨?_,?_,trivial⟩
   all_goals
    conv=>whnf
    refine⟨by rw[List.length_map];show(fs.length+1)*48≤_;omega,?_⟩
    conv=>whnf
    refine⟨(k5,ns5,fs++[⟨l[k+1].text,[],b⟩]),⟨d2,by omega,by rw[List.length_append];simp;omega,f',by omega,b5⟩,by dsimp only;omega,?_⟩
    refine⟨rfl,?_,?_⟩<;>repeat' (first|exact trivial|exact rfl|refine and_rfl ?_|refine and_two ?_ ?_|(rw[List.map_append];exact rfl))
  ·conv=>whnf
   refine⟨by rw[List.length_map];show(fs.length+1)*48≤_;omega,?_⟩
   conv=>whnf
   refine⟨(k5,ns5,fs++[⟨l[k+1].text,[],b⟩]),⟨d2,by omega,by rw[List.length_append];simp;omega,f',by omega,b5⟩,by dsimp only;omega,?_⟩
   refine⟨rfl,?_,?_⟩<;>repeat' (first|exact trivial|exact rfl|refine and_rfl ?_|refine and_two ?_ ?_|(rw[List.map_append];exact rfl))
 |false=>
  have c:=x_plist1 (k:=k+1+1+1) (ns:=ns) (fs:=fs) (nm:=l[k+1].text) (e:=e) hl (by omega) h4
  have hp:parP e (l.drop (k+1+1+1))=parF e (l.length - (k+1+1+1)) [] (l.drop (k+1+1+1)):=by unfold parP;rw[if_neg (by rw[h4];simp),List.length_drop]
  cases hq:parP e (l.drop (k+1+1+1)) with
  |error o=>
   rw[hq] at b5
   rw[←hp,hq] at c
   subst b5
   conv=>whnf
   refine .inr ?_
   exact mpan (T:=TM parM) c rfl
  |ok x=>
  obtain⟨ps,r4⟩:=x
  obtain⟨g1,g2⟩:=parP_room hq
  obtain⟨k4,rfl,g3,g4⟩:∃k4,r4=l.drop k4∧k+1+1+1<k4∧k4≤l.length:=⟨l.length - r4.length,suf_drop g2,by omega,by omega⟩
  rw[hq] at b5
  rw[←hp,hq,outQ_ok g4] at c
  dsimp only at b5
  conv=>whnf
  refine .inl ?_
  conv=>whnf
  refine mcallZ (T:=TM parM) (φ:=[60]) (gf:=false) 60 2 1 c ?_
  cases h5:blockP e (l.length+1) (l.drop k4) ns with
  |error o=>
   rw[h5] at b5
   subst b5
   conv=>whnf
   refine .inr ?_
   exact mpan (T:=TM parM) ((hB fs).err (by omega) (by omega) (by omega) h5) rfl
  |ok r=>
  obtain⟨b,r5,ns5⟩:=r
  rw[h5] at b5
  obtain⟨k5,rfl,d1,d2,d3,d4⟩:=(hB fs).ok hBE hBG (by omega) (by omega) (by omega) h5
  conv=>whnf
  refine .inl ?_
  conv=>whnf
  refine mcall (T:=TM parM) (φ:=[]) (gf:=false) d4 ?_
  conv=>whnf
  refine⟨some planF,by kernel_rfl,?_⟩
  conv=>whnf
  refine⟨?_,?_,trivial⟩
  rotate_left
  ·conv=>whnf
   refine⟨?_,?_,trivial⟩
   all_goals
    conv=>whnf
    refine⟨by rw[List.length_map];show(fs.length+1)*48≤_;omega,?_⟩
    conv=>whnf
    refine⟨(k5,ns5,fs++[⟨l[k+1].text,ps,b⟩]),⟨d2,by omega,by rw[List.length_append];simp;omega,f',by omega,b5⟩,by dsimp only;omega,?_⟩
    refine⟨rfl,?_,?_⟩<;>repeat' (first|exact trivial|exact rfl|refine and_rfl ?_|refine and_two ?_ ?_|(rw[List.map_append];exact rfl))
  ·conv=>whnf
   refine⟨by rw[List.length_map];show(fs.length+1)*48≤_;omega,?_⟩
   conv=>whnf
   refine⟨(k5,ns5,fs++[⟨l[k+1].text,ps,b⟩]),⟨d2,by omega,by rw[List.length_append];simp;omega,f',by omega,b5⟩,by dsimp only;omega,?_⟩
   refine⟨rfl,?_,?_⟩<;>repeat' (first|exact trivial|exact rfl|refine and_rfl ?_|refine and_two ?_ ?_|(rw[List.map_append];exact rfl))
end
end Go.Proofs.YtglndfgmlminpaaGreatDoor
namespace Go.Proofs.YtglndfgmlminpaaGreatDoor
open Go.RowKit
def deferOf:Code→Option (Oper×Oper)
 | .region _ ops false=>match ops.toList with
  |[o1,o2]=>(match o2.op with
   | .defer _=>some (o1,o2)
   |_=>none)
  |_=>none
 |_=>none
def DefK (o:Oper) (st:St) (K:FuncId→List V→Prop):Prop:=match o.op with
 | .defer c=>(match c.callee with
  | .value x=>(match evN st.t x with
   | .fn f 0 cs=>(c.args.isEmpty&&o.guard.isNone&&o.dst.isNone)=true∧K f cs
   |_=>False)
  |_=>False)
 |_=>False
def awpDf (P:Program) (T:Tab):Code→St→(St→Prop)→(FuncId→List V→Code→St→Prop)→Prop
 | .seq x y,st,KR,KD=>(match deferOf x with
  |some (o1,o2)=>aOp P T #[o1,o2] o1 st fun st=>DefK o2 st fun f cs=>KD f cs y st
  |none=>awp P T x st fun e st=>match e with
   | .normal=>awpDf P T y st KR KD
   | .ret=>KR st
   | .exit _=>False)
 |_,_,_,_=>False
section
variable {P:Program} {T:Tab} {B:Fr} {w0:World} {N:Names} {S:Sets} {t t':List V} {m m':List (Option Bk)} {a:Act} {w:World} {pv:Option Value}
structure DefOk (B:Fr) (w0:World) (N:Names) (S:Sets) (t:List V) (m:List (Option Bk)) (a:Act) (w:World) (f:FuncId) (cs:List V) (d:Deferred):Prop where
 sat:Sat B w0 N S t m a w
 us:∃us:Array Value,d={target:= .fn (.func f) us,args:= #[]}∧RelL N S w cs us.toList
theorem awpDf_sound (hT:TOk P T) (hm:P.follows .mixedOrders=true) (hg:FrOk B) {KR:St→Prop} {KD:FuncId→List V→Code→St→Prop} {Q:Exit→Act→World→Prop} (hret:∀a w,OkSt B w0 KR a w→Q .ret a w)
  (hd:∀f cs y N S t m a w d,DefOk B w0 N S t m a w f cs d→KD f cs y ⟨t,m⟩→y.wp P Q {a with defers:=d::a.defers} w):
  ∀(c:Code) (a:Act) (w:World),OkSt B w0 (fun st=>awpDf P T c st KR KD) a w→c.wp P Q a w
 | .seq x y,a,w,⟨N,S,t,m,hs,h⟩=>by
  simp only[awpDf] at h
  split at h
  ·rename_i o1 o2 hdo
   unfold deferOf at hdo
   split at hdo
   rotate_left
   ·cases hdo
   rename_i id ops
   split at hdo
   rotate_left
   ·cases hdo
   rename_i p1 p2 hops
   split at hdo
   rotate_left
   ·cases hdo
   rename_i c hc
   cases hdo
   have ho:ops= #[o1,o2]:=by cases ops;simp at hops;rw[hops]
   subst ho
   refine wp_seq (wp_region_list ?_)
   obtain⟨v,m1,t1,h1,h2,h3⟩:=aOp_spec h rfl
   show wpList P #[o1,o2] _ [o1,o2] a w
   unfold wpList
   refine step_sound hT hs h1 (K:=fun st=>∃t',nfEq st.t t'∧DefK o2 ⟨t',st.m⟩ fun f cs=>KD f cs y ⟨t',st.m⟩) ⟨t1,h2,h3⟩ ?_
   rintro a1 w1 ⟨N1,S1,t2,m2,hs1,t3,he,hk⟩
   have hs2:=hs1.nf he
   simp only[DefK,hc] at hk
   split at hk
   rotate_left
   ·exact hk.elim
   rename_i x hcal
   split at hk
   rotate_left
   ·exact hk.elim
   rename_i f cs hev
   obtain⟨hb,hk⟩:=hk
   simp only[Bool.and_eq_true,Option.isNone_iff_eq_none,Array.isEmpty_iff] at hb
   obtain⟨⟨hb1,hb2⟩,hb3⟩:=hb
   have hx:=hs2.evN x
   rw[hev] at hx
   generalize hu:a1.eval x=u at hx
   cases hx
   rename_i us vs h0 hl hr
   have hus:us= #[]:=by
    have:us.size=0:=h0.symm
    exact Array.eq_empty_of_size_eq_zero this
   subst hus
   unfold wpList
   have hw:Region.wanted o2 (yielded #[o1,o2] a1.tmps)=true:=by simp[Region.wanted,hb2]
   rw[if_pos hw]
   refine .inl ?_
   unfold Oper.wp
   have e:(execOp a1.eval o2).run P w1= .ok (.defer {target:= .fn (.func f) vs,args:= #[]}) w1:=by
    unfold execOp
    simp only[hc]
    simp[resolve,hcal,hu,Deferred.ofValue,hb1]
   rw[e,Oper.upon_defer]
   unfold wpList
   simp only[Exit.then,hb3,Act.put]
   exact hd f cs y N1 S1 t3 m2 a1 w1 _ ⟨hs2,vs,rfl,⟨by simpa using hl,fun i v hv=>by
    have:=hr i v hv
    rw[getD_toList]
    simpa using this⟩⟩ hk
  ·refine wp_seq (Go.wp_mono (awp_sound hT hm hg x _ a w ⟨N,S,t,m,hs,h⟩) ?_)
   intro e a w h
   cases e<;>simp only[QK,Exit.then] at h⊢
   ·exact awpDf_sound hT hm hg hret hd y a w h
   ·obtain⟨_,_,_,_,_,h⟩:=h;exact h.elim
   ·exact hret a w h
   all_goals exact h.elim
 | .skip,a,w,⟨_,_,_,_,_,h⟩=>h.elim
 | .region ..,a,w,⟨_,_,_,_,_,h⟩=>h.elim
 | .cond ..,a,w,⟨_,_,_,_,_,h⟩=>h.elim
 | .block ..,a,w,⟨_,_,_,_,_,h⟩=>h.elim
 | .loop ..,a,w,⟨_,_,_,_,_,h⟩=>h.elim
 | .rangeFunc ..,a,w,⟨_,_,_,_,_,h⟩=>h.elim
 | .exit ..,a,w,⟨_,_,_,_,_,h⟩=>h.elim
 | .label ..,a,w,⟨_,_,_,_,_,h⟩=>h.elim
 | .scope ..,a,w,⟨_,_,_,_,_,h⟩=>h.elim
 | .goto ..,a,w,⟨_,_,_,_,_,h⟩=>h.elim
 | .ret,a,w,⟨_,_,_,_,_,h⟩=>h.elim
 | .refuse ..,a,w,⟨_,_,_,_,_,h⟩=>h.elim
def frD (w:World) (ds:List Deferred):Fr:={keep:=(· <w.heap.size),old:=fun _=>True,lent:=fun _=>none,ref:=w,defers:=ds}
theorem resK_any (hT:TOk P T) {fn:Func} {res:V} (a:Act) (w':World) (h:OkSt B w0 (resK T fn (fun v=>v=res)) a w'):∃v,(results fn a.tmps).run P w'= .ok v w'∧
  RelV (fun _=>none) (fun _ b=>w0.heap.size≤b∧b<w'.heap.size) w' res v:=by
 obtain⟨N,S,t,m,hs,h⟩:=h
 simp only[resK] at h
 obtain⟨us,vs,h1,h2,h3⟩:=resL_sound hT hs _ _ h
 have hrun:∀v,(if h:us.toArray.size=1 then us.toArray[0] else .tuple us.toArray)=v→(results fn a.tmps).run P w'= .ok v w':=by
  intro v hv
  unfold results
  rw[Array.mapM_eq_mapM_toList]
  change Sem.run P (do
   let vs ←List.toArray<$>fn.results.toList.mapM (resR a)
   pure (if h:vs.size=1 then vs[0] else Value.tuple vs)) w'=_
  simp only[Sem.run_bind,Sem.run_map,h1,Result.andThen_ok,Sem.run_pure,hv]
 split at h3
 ·rename_i v
  subst h3
  obtain⟨u,rfl⟩:∃u,us=[u]:=by
   have:=h2.1
   match us,this with
   |[u],_=>exact⟨u,rfl⟩
  exact⟨u,hrun u rfl,by simpa using h2.2 0 v rfl⟩
 ·rename_i hne
  subst h3
  have hsz:us.toArray.size≠1:=by
   intro e
   have:us.length=1:=by simpa using e
   have h4:=h2.1
   rw[this] at h4
   match vs,h4 with
   |[v],_=>exact hne v rfl
  refine⟨.tuple us.toArray,hrun _ (by rw[dif_neg hsz]),.tu _ _ (by simpa using h2.1) fun i v hv=>?_⟩
  have:=h2.2 i v hv
  rw[←getD_toList];simpa using this
theorem resK_ret (hT:TOk P T) {fn:Func} {res:V} {ds:List Deferred} {w:World}:∀(a:Act) (w':World),OkSt (frD w ds) w (resK T fn (fun v=>v=res)) a w'→a.defers=ds∧∃v,(results fn a.tmps).run P w'= .ok v w'∧
  RelV (fun _=>none) (fun _ b=>w.heap.size≤b∧b<w'.heap.size) w' res v∧Below w.heap.size w w':=by
 intro a w' h
 obtain⟨v,h1,h2⟩:=resK_any (P:=P) hT a w' h
 obtain⟨N,S,t,m,hs,_⟩:=h
 exact⟨hs.nodef,v,h1,h2,hs.low.below⟩
theorem Sat.defers {w1:World} {ds:List Deferred} (hs:Sat (frD w1 []) w1 N S t m a w):Sat (frD w1 ds) w1 N S t m {a with defers:=ds} w:=
 ⟨hs.low,rfl,hs.tmps,hs.blk,hs.non,hs.apart,hs.data,hs.fresh,hs.own,hs.base,hs.old,hs.lent,⟨hs.more.size,hs.more.ghost,hs.more.aside,hs.more.inv⟩,hs.stay⟩
def IdleOk (P:Program) (f:FuncId) (n:Nat):Prop:=∀(us:Array Value) (w:World),ginv w→us.size=n→CallsD P f us .returning w fun e u' w'=>e= .returned (.tuple #[])∧u'= .returning∧Below w.heap.size w w'
theorem invoke_fn {f:FuncId} {fn:Func} (hf:P.funcs[f]?=some fn) (hn:(fn.name== "runtime.NumGoroutine")=false) (hb:fn.body.isNone=false) (us:Array Value) (w:World):(invoke (.fn (.func f) us) #[]).run P w= .ok (.enter f us) w:=by
 have hn':¬fn.name= "runtime.NumGoroutine" :=by simpa using hn
 have hb':¬fn.body=none:=by intro e;rw[e] at hb;cases hb
 simp[invoke,callFunc,hf,hn',hb']
theorem dcalls_df (hT:TOk P T) (hm:P.follows .mixedOrders=true) {f:FuncId} {fn:Func} (hf:P.funcs[f]?=some fn) (hn:(fn.name== "runtime.NumGoroutine")=false) {args:List V} {res:V} {fd n:Nat} {fnd:Func} (hfd:P.funcs[fd]?=some fnd) (hnd:(fnd.name== "runtime.NumGoroutine")=false) (hbd:fnd.body.isNone=false)
  (hI:IdleOk P fd n) (h:match fn.body with
   |some c=>enterK fn args fun st=>awpDf P T c st (resK T fn (fun v=>v=res)) fun f' cs y st=>(Nat.beq f' fd&&Nat.beq cs.length n)=true∧awp P T y st (Done T fn res)
   |none=>False):DCalls P f args res:=by
 cases hb:fn.body with
 |none=>rw[hb] at h;exact h.elim
 |some c=>
  rw[hb] at h
  refine⟨⟨fn,hf,hn,by rw[hb];rfl⟩,fun w vs hi hvs=>?_⟩
  simp only[enterK,forceAll_eq] at h
  refine calls_of_wp_defers hf hb (awpDf_sound (B:=frD w []) (w0:=w) hT hm ⟨by intro p hp;simp[frD] at hp,rfl⟩ ?_ ?_ c _ w ⟨_,_,_,_,sat_enter hi hvs fn.ntmps,h⟩)
  ·intro a w' h
   obtain⟨h1,v,h2,h3,h4⟩:=resK_ret (P:=P) hT a w' h
   show Leaves P fn a.tmps _ a.defers .returning w'
   rw[h1]
   exact⟨v,h2,v,rfl,h3,h4⟩
  ·rintro f' cs y N S t m a w1 d ⟨hs,us,rfl,hus⟩ ⟨hk,hy⟩
   simp only[Bool.and_eq_true] at hk
   obtain rfl:=Nat.eq_of_beq_eq_true hk.1
   have hcs:=Nat.eq_of_beq_eq_true hk.2
   have hnil:a.defers=[]:=hs.nodef
   have hs':=hs.defers (ds:=[{target:= .fn (.func f') us,args:= #[]}])
   have hd0:({a with defers:={target:=Target.fn (.func f') us,args:= #[]}::a.defers}:Act)={a with defers:=[{target:= .fn (.func f') us,args:= #[]}]}:=by rw[hnil]
   rw[hd0]
   refine Go.wp_mono (awp_sound hT hm ⟨by intro p hp;simp[frD] at hp,rfl⟩ y _ _ w1 ⟨_,_,_,_,hs',hy⟩) ?_
   have key:∀(a:Act) (w2:World),OkSt (frD w [{target:= .fn (.func f') us,args:= #[]}]) w (resK T fn (fun v=>v=res)) a w2→Leaves P fn a.tmps (fun e w'=>∃v,e= .returned v∧RelV (fun _=>none) (fun _ b=>w.heap.size≤b∧b<w'.heap.size) w' res v∧Below w.heap.size w w') a.defers .returning w2:=by
    rintro a w2 ⟨N,S,t,m,hs2,h⟩
    have hdf:a.defers=[{target:= .fn (.func f') us,args:= #[]}]:=hs2.nodef
    rw[hdf]
    refine leaves_cons (by simp) (invoke_fn hfd hnd hbd us w2) ((hI us w2 hs2.inv (by have:=hus.1;simp at this;omega)).mono ?_)
    rintro e u' w3 ⟨rfl,rfl,hbl⟩
    obtain⟨_,v,h2,h3,h4⟩:=resK_ret (P:=P) hT a w3 ⟨_,_,_,_,hs2.called hbl,h⟩
    exact⟨v,h2,v,rfl,h3,h4⟩
   intro e a w2 h
   cases e<;>simp only[QK] at h<;>first|exact h.elim|skip
   ·exact key a w2 h
   ·obtain⟨N,S,t,m,hs,h⟩:=h;exact h.elim
   ·exact key a w2 h
end
end Go.Proofs.YtglndfgmlminpaaGreatDoor
