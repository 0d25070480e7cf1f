/- Texts joined by pack.py: XSyM XSyQ XSyR XSxFz -/
import Derived.Test.YtdccglkagfdooaaGreatDoorBz33
import Derived.Test.YtdccglkagfdooaaGreatDoorBz35
import Derived.Test.YtdccglkagfdooaaGreatDoorBz34
import Derived.Test.YtdccglkagfdooaaGreatDoorBz25
set_option maxHeartbeats 16000000
set_option maxRecDepth 100000
namespace Go.Proofs.YtdccglkagfdooaaGreatDoor
open Go.RowKit
section
variable {l:List Tok} {e:Int} {fs:List Fc}
theorem x_expr (hl:l.length≤1000000):∀f,PC 183 (exprP e f) l e fs f
 |0=>fun k ns _ h=>absurd h (Nat.not_lt_zero _)
 |f+1=>by
  have hC:=x_expr hl f
  have hE:EatsP (exprP e f):=exprP_eats f
  have hG:GrowP (exprP e f):=exprP_grow f
  have hA:AtP e (exprP e f):=exprP_at f
  have h1:=x_prim hC hE hG hA hl
  have h2:=x_post h1 hC hE hG hl
  have h3:PC 226 (unaryP e (exprP e f)) l e fs (f+1):=fun k ns hk hf hn=>x_unary h2 hE hG hl _ k ns (Nat.le_refl _) hk hf hn
  have h4:=x_term h3 hE hG hl
  have h5:=x_sum h4 hE hG hl
  have h6:PC 215 (notP e (exprP e f)) l e fs (f+1):=fun k ns hk hf hn=>x_not h5 hE hG hl _ k ns (Nat.le_refl _) hk hf hn
  have h7:=x_and h6 hE hG hl
  exact x_expr1 h7 hE hG hl
end
end Go.Proofs.YtdccglkagfdooaaGreatDoor
namespace Go.Proofs.YtdccglkagfdooaaGreatDoor
open Go.RowKit
section
variable {l:List Tok} {e:Int} {fs:List Fc} {f:Nat} {S:Pars}
theorem x_block1 (hS:PC 160 S l e fs f) (hE:EatsP S) (hG:GrowP S) (hl:l.length≤1000000):PC 120 (fun r ns=>match mustT e 5 sLC r with
  | .error o=> .error o
  | .ok r1=>stmtsF e S (r1.length+1) [] r1 ns) l e fs f:=by
 intro k ns hk hf hn
 dsimp only
 rw[mustT_drop,←nextB_one]
 refine mesx Tryz.func120 (by kernel_rfl) (by kernel_rfl) ?_
 cases h0:nextB 5 [sLC] (l.drop k) with
 |false=>
  rw[if_neg (by simp)]
  conv=>whnf
  refine .inr ?_
  exact mpan (T:=TM parM) (x_mustN (ts:=[sLC]) hl (by simp) h0 hk) rfl
 |true=>
 have hlt:=nextB_yes h0
 rw[if_pos rfl]
 dsimp only
 generalize hR:stmtsF e S ((l.drop (k+1)).length+1) [] (l.drop (k+1)) ns=R
 rw[List.length_drop] at hR
 conv=>whnf
 refine .inl ?_
 conv=>whnf
 refine mcall (T:=TM parM) (φ:=[]) (gf:=false) (x_mustY (ts:=[sLC]) hl (by simp) h0 hlt) ?_
 conv=>whnf
 refine⟨[(3,41,3,1)],Nat×List Nd×List Int,fun _=>[(3,.ow 41 0)],fun⟨k,ns,ks⟩=>[(25,some (pBox l k e 26 27)),(26,some (nRow ns)),(27,some (fRow fs)),(41,some (iRow true ks))],
  fun⟨k2,ns,ks⟩=>k+1≤k2∧k2≤l.length∧ns.length+(l.length - k2)≤999999∧ks.length+(l.length - k2)≤1000000∧∃f',l.length - k2<f'∧stmtsF e S f' ks (l.drop k2) ns=R,fun x=>l.length - x.1,(k+1,ns,[]),⟨Nat.le_refl _,hlt,by omega,by simp;omega,_,Nat.lt_succ_self _,hR⟩,?_,?_⟩
 ·refine⟨rfl,?_,?_⟩<;>repeat' (first|exact trivial|exact rfl|refine and_rfl ?_|refine and_two ?_ ?_)
 clear hR hn
 rintro⟨k2,ns,ks⟩ ⟨b0,b1,b2,b3,f',b4,b5⟩
 obtain⟨f',rfl⟩:∃g,f'=g+1:=⟨f' - 1,by omega⟩
 unfold stmtsF at b5
 conv=>whnf
 refine .inl ?_
 cases hb:nextB 5 [sRC] (l.drop k2) with
 |true=>
  have hk2:=nextB_yes hb
  rw[if_pos (by rw[isSym,←nextB_one,hb]),tail_drop] at b5
  conv=>whnf
  refine mcall (T:=TM parM) (φ:=[]) (gf:=false) (x_takeY (k:=k2) (ts:=[sRC]) hl (by simp) hb hk2) ?_
  conv=>whnf
  refine known true rfl ?_
  conv=>whnf
  refine .inl ?_
  conv=>whnf
  refine mcall (T:=TM parM) (φ:=[]) (gf:=false) (x_add (ns:=ns) (ndM 19 [] 0 ks) (show ns.length≤1000000 by omega)) ?_
  conv=>whnf
  exact⟨_,by rw[←b5,addN,outP_ok (by omega)],rfl,rfl,rfl⟩
 |false=>
  rw[if_neg (by rw[isSym,←nextB_one,hb];simp)] at b5
  conv=>whnf
  refine mcall (T:=TM parM) (φ:=[]) (gf:=false) (x_takeN (k:=k2) (ts:=[sRC]) hl (by simp) hb b1) ?_
  conv=>whnf
  refine known false rfl ?_
  cases h1:S (l.drop k2) ns with
  |error o=>
   rw[h1] at b5
   subst b5
   conv=>whnf
   refine .inr ?_
   exact mpan (T:=TM parM) (hS.err b1 (by omega) (by omega) h1) rfl
  |ok r=>
   obtain⟨i,r1,ns1⟩:=r
   rw[h1] at b5
   obtain⟨k3,rfl,d1,d2,d3,d4⟩:=hS.ok hE hG b1 (by omega) (by omega) h1
   conv=>whnf
   refine .inl ?_
   conv=>whnf
   refine mcall (T:=TM parM) (φ:=[]) (gf:=false) d4 ?_
   conv=>whnf
   refine⟨by rw[List.length_map];show(ks.length+1)*8≤_;omega,?_⟩
   conv=>whnf
   refine⟨(k3,ns1,ks++[i]),⟨by omega,d2,by omega,by rw[List.length_append];simp;omega,f',by omega,b5⟩,by dsimp only;omega,?_⟩
   refine⟨rfl,?_,?_⟩<;>repeat' (first|exact trivial|exact rfl|refine and_rfl ?_|refine and_two ?_ ?_|(simp[intD];done))
theorem x_block (hl:l.length≤1000000):∀f,PC 120 (blockP e f) l e fs f
 |0=>fun k ns _ h=>absurd h (Nat.not_lt_zero _)
 |f+1=>by
  have hX:=x_expr (e:=e) (fs:=fs) hl (f+1)
  have hB:=x_block hl f
  have hBE:EatsP (blockP e f):=blockP_eats f
  have hBG:GrowP (blockP e f):=blockP_grow f
  have hS:=x_stmt hX hB rfl hBE hBG hl
  exact x_block1 hS (stmtP_eats hBE) (stmtP_grow hBG) hl
end
end Go.Proofs.YtdccglkagfdooaaGreatDoor
namespace Go.Proofs.YtdccglkagfdooaaGreatDoor
open Go.RowKit
section
variable {l:List Tok} {k:Nat} {e:Int} {ns:List Nd} {fs:List Fc} {nm:Bs} {ps:List Bs}
abbrev fM (l:List Tok) (k:Nat) (e:Int) (ns:List Nd) (fs:List Fc) (nm:Bs) (ps:List Bs):List Bk:=
 [.box [bstr nm,.ow 1 0,int 0],sRow false ps,.box [.bx 3 0],pBox l k e 4 5,nRow ns,fRow fs]
theorem x_pitemY (hb:nextB 1 [] (l.drop k)=true) (hk:k<l.length) (hl:l.length≤1000000) (hps:ps.length≤1000000):
  MCalls Tryz.prog 119 [.bx 0 0,.bx 2 0] (fM l k e ns fs nm ps) (.tu []) (fM l (k+1) e ns fs nm (ps++[l[k].text])):=by
 have e1:fM l (k+1) e ns fs nm (ps++[l[k].text])=[.box [bstr nm,.ow 1 0,int 0],.row 0 9 1 false (ps.map strD++[strD l[k].text]),.box [.bx 3 0],pBox l (k+1) e 4 5,nRow ns,fRow fs]:=by simp only[fM,sRow,List.map_append,List.map_cons,List.map_nil]
 refine mcx Tryz.func119 (by kernel_rfl) (by kernel_rfl) ?_
 conv=>whnf
 refine⟨some planK1,by kernel_rfl,?_⟩
 conv=>whnf
 refine⟨.bx 10 1,fun m2 K2 hK=>hK,?_⟩
 conv=>whnf
 refine⟨?_,?_,trivial⟩
 all_goals
  conv=>whnf
  try refine⟨?_,trivial⟩
  conv=>whnf
  refine mcall (T:=TM parM) (φ:=[]) (gf:=false) (x_mustY (ts:=[]) hl (by simp) hb hk) ?_
  conv=>whnf
  refine⟨by rw[List.length_map];show(ps.length+1)*16≤_;omega,?_⟩
  conv=>whnf
  exact⟨rfl,by rw[e1];rfl,rfl⟩
theorem x_pitemN (hb:nextB 1 [] (l.drop k)=false) (hk:k≤l.length) (hl:l.length≤1000000):
  MPans Tryz.prog 119 [.bx 0 0,.bx 2 0] (fM l k e ns fs nm ps) (faultV (offT e (l.drop k))):=by
 refine mpsx Tryz.func119 (by kernel_rfl) (by kernel_rfl) ?_
 conv=>whnf
 refine⟨some planK1,by kernel_rfl,?_⟩
 conv=>whnf
 refine⟨.bx 10 1,fun m2 K2 hK=>hK,?_⟩
 conv=>whnf
 refine⟨?_,?_,trivial⟩
 all_goals
  conv=>whnf
  try refine⟨?_,trivial⟩
  conv=>whnf
  refine .inr ?_
  exact mpan (T:=TM parM) (x_mustN (ts:=[]) hl (by simp) hb hk) rfl
abbrev qM0 (l:List Tok) (k:Nat) (e:Int) (ns:List Nd) (fs:List Fc) (nm:Bs):List Bk:=[pBox l k e 1 2,nRow ns,fRow fs,.box [bstr nm,.cv (.slice none 0 0),int 0],.box [.bx 0 0]]
abbrev qM1 (l:List Tok) (k:Nat) (e:Int) (ns:List Nd) (fs:List Fc) (nm:Bs) (ps:List Bs):List Bk:=[pBox l k e 1 2,nRow ns,fRow fs,.box [bstr nm,.ow 5 0,int 0],.box [.bx 0 0],sRow true ps]
abbrev itemP:V:= .fn 119 0 [.bx 3 0,.bx 4 0]
theorem x_plist0 (hl:l.length≤1000000) (h:isSym sRP (l.drop k)=true):
  MCalls Tryz.prog 118 [.bx 0 0,bstr sRP,itemP] (qM0 l k e ns fs nm) (.tu []) (qM0 l (k+1) e ns fs nm):=by
 have hb:nextB 5 [sRP] (l.drop k)=true:=by rw[nextB_one];exact h
 refine mcx Tryz.func118 (by kernel_rfl) (by kernel_rfl) ?_
 conv=>whnf
 refine mcall (T:=TM parM) (φ:=[]) (gf:=false) (x_takeY hl (by simp) hb (nextB_yes hb)) ?_
 conv=>whnf
 refine known true rfl ?_
 conv=>whnf
 exact⟨rfl,rfl,rfl⟩
def outQ (l:List Tok) (e:Int) (ns:List Nd) (fs:List Fc) (nm:Bs):Except Int (List Bs×List Tok)→Except Value (V×List Bk)
 | .ok (ps,r1)=> .ok (.tu [],qM1 l (l.length - r1.length) e ns fs nm ps)
 | .error o=> .error (faultV o)
theorem outQ_ok {k1:Nat} (hk:k1≤l.length):outQ l e ns fs nm (.ok (ps,l.drop k1))= .ok (.tu [],qM1 l k1 e ns fs nm ps):=by
 simp only[outQ,List.length_drop]
 rw[show l.length - (l.length - k1)=k1 by omega]
theorem mustK_next:mustK e 1 (l.drop k)=if nextB 1 [] (l.drop k) then .ok (pText (l.drop k),l.drop (k+1)) else .error (offT e (l.drop k)):=by
 unfold mustK
 rw[tail_drop]
 rcases Nat.lt_or_ge k l.length with h|h
 ·rw[List.drop_eq_getElem_cons h]
  by_cases h1:l[k].kind=1
  ·simp[pKind,nextB,h1,h]
  ·simp[pKind,nextB,h1]
 ·rw[List.drop_eq_nil_of_le h];simp[pKind,nextB]
theorem x_plist1 (hl:l.length≤1000000) (hk:k≤l.length) (h:isSym sRP (l.drop k)=false):
  MEnds Tryz.prog 118 [.bx 0 0,bstr sRP,itemP] (qM0 l k e ns fs nm) (outQ l e ns fs nm (parF e (l.length - k) [] (l.drop k))):=by
 have hb:nextB 5 [sRP] (l.drop k)=false:=by rw[nextB_one];exact h
 generalize hR:parF e (l.length - k) [] (l.drop k)=R
 refine mesx Tryz.func118 (by kernel_rfl) (by kernel_rfl) ?_
 conv=>whnf
 refine .inl ?_
 conv=>whnf
 refine mcall (T:=TM parM) (φ:=[]) (gf:=false) (x_takeN hl (by simp) hb hk) ?_
 conv=>whnf
 refine known false rfl ?_
 conv=>whnf
 refine⟨[(1030001,43,9,1)],Nat×List Bs,fun _=>[],fun⟨k,ps⟩=>[(27,some (pBox l k e 28 29)),(28,some (nRow ns)),(29,some (fRow fs)),(43,some (sRow true ps))],
  fun⟨k2,ps⟩=>k≤k2∧k2≤l.length∧ps.length+(l.length - k2)≤1000000∧∃f',l.length - k2≤f'∧parF e f' ps (l.drop k2)=R,fun x=>l.length - x.1,(k,[]),⟨Nat.le_refl _,hk,by simp;omega,_,Nat.le_refl _,hR⟩,?_,?_⟩
 ·refine⟨rfl,?_,?_⟩<;>repeat' (first|exact trivial|exact rfl|refine and_rfl ?_|refine and_two ?_ ?_)
 clear hR hb h
 rintro⟨k2,ps⟩ ⟨b0,b1,b3,f',b4,b5⟩
 cases hi:nextB 1 [] (l.drop k2) with
 |false=>
  have hR:R= .error (offT e (l.drop k2)):=by
   rw[←b5]
   cases f' with
   |zero=>rfl
   |succ f'=>unfold parF;rw[mustK_next,hi];rfl
  subst hR
  conv=>whnf
  refine .inr ?_
  exact mpan (T:=TM parM) (x_pitemN hi b1 hl) rfl
 |true=>
  have hlt:=nextB_yes hi
  obtain⟨f',rfl⟩:∃g,f'=g+1:=⟨f' - 1,by omega⟩
  unfold parF at b5
  rw[mustK_next,if_pos hi,pText_at hlt] at b5
  dsimp only at b5
  conv=>whnf
  refine .inl ?_
  conv=>whnf
  refine mcallR (T:=TM parM) (φ:=[]) (gf:=false) 43 (x_pitemY (ps:=ps) (nm:=nm) hi hlt hl (by omega)) (flatS _) ?_
  cases hb:nextB 5 [sCm,sRP] (l.drop (k2+1)) with
  |false=>
   have hR:R= .error (offT e (l.drop (k2+1))):=by
    rw[nextB_two,Bool.or_eq_false_iff] at hb
    rw[←b5,if_neg (by rw[show isSym sRP (l.drop (k2+1))=false from hb.2];simp),if_neg (by rw[show isSym sCm (l.drop (k2+1))=false from hb.1];simp)]
   subst hR
   conv=>whnf
   refine .inr ?_
   exact mpan (T:=TM parM) (x_mustN (k:=k2+1) hl (by simp) hb hlt) rfl
  |true=>
   have hk3:=nextB_yes hb
   conv=>whnf
   refine .inl ?_
   conv=>whnf
   refine mcall (T:=TM parM) (φ:=[]) (gf:=false) (x_mustY (k:=k2+1) hl (by simp) hb hk3) ?_
   have hkd:l[k2+1].kind=5:=by
    rw[nextB_eq _ _ hk3] at hb
    simp at hb
    exact hb.1
   conv=>whnf
   rintro(_|_) h3
   ·have h3:(l[k2+1].text==sRP)=false:=(sEq_mk _ _).symm.trans h3
    have h4:isSym sCm (l.drop (k2+1))=true:=by
     have h5:isTk 5 sRP (l.drop (k2+1))=false:=by rw[isTk_drop _ _ hk3,h3,Bool.and_false]
     rw[nextB_two,h5,Bool.or_false] at hb
     exact hb
    rw[if_neg (by rw[show isSym sRP (l.drop (k2+1))=false by rw[isSym,isTk_drop _ _ hk3,h3,Bool.and_false]];simp),if_pos h4,tail_drop] at b5
    conv=>whnf
    refine⟨(k2+1+1,ps++[l[k2].text]),⟨by omega,by omega,by rw[List.length_append];simp;omega,f',by omega,b5⟩,by dsimp only;omega,?_⟩
    refine⟨rfl,?_,?_⟩<;>repeat' (first|exact trivial|exact rfl|refine and_rfl ?_|refine and_two ?_ ?_)
   ·have h3:(l[k2+1].text==sRP)=true:=(sEq_mk _ _).symm.trans h3
    rw[if_pos (show isSym sRP (l.drop (k2+1))=true by rw[isSym,isTk_drop _ _ hk3,h3,hkd];rfl),tail_drop] at b5
    conv=>whnf
    exact⟨_,by rw[←b5,outQ_ok (by omega)],rfl,rfl,rfl⟩
end
end Go.Proofs.YtdccglkagfdooaaGreatDoor
namespace Go.Proofs.YtdccglkagfdooaaGreatDoor
open Go.RowKit
section
variable {P:Program} {T:Tab}
theorem op_frz {o:Oper} {E:Operand→V} {m m':List (Option Bk)} {v:V} {n k b i E1 sz:Nat} {xs:List (List D)} {cs:List V} (h:OpTr P o E m v m') (hm:m'[n]?=some (some (.row k E1 sz true xs)))
  (hb:m'[b]?=some (some (.box cs))) (hi:cs[i]?=some (.ow n k)):OpTr P o E m v ((m'.set n (some (.row (k+1) E1 sz true []))).set b (some (.box (cs.set i (.sl true sz xs))))):=by
 intro B w0 N S t a w hs hx Q
 refine Oper.wp_mono' (h B w0 N S t a w hs hx Q) ?_
 rintro a' w' ⟨u,he,N1,S1,h1,hr⟩
 obtain⟨N2,S2,h2,r2,s2,b2⟩:=h1.freeze hm
 have hnb:n≠b:=by rintro rfl;rw[hm] at hb;cases hb
 have hb2:(m'.set n (some (.row (k+1) E1 sz true [])))[b]?=some (some (.box cs)):=by rw[List.getElem?_set_ne hnb];exact hb
 have hlt:=lt_of_get hb2
 refine⟨u,he,N2,S2,⟨h2.low,h2.nodef,h2.tmps,fun j b' hj=>?_,fun j hj=>?_,h2.apart,h2.data,h2.fresh,h2.own,h2.base,h2.old,h2.lent,h2.more,h2.stay⟩,r2 _ _ hr⟩
 ·by_cases hjb:j=b
  ·subst hjb
   rw[List.getElem?_set_self hlt] at hj
   cases hj
   obtain⟨g,ty,us,e1,e2,e3,e4⟩:=h2.blk j _ hb2
   refine⟨g,ty,us,e1,e2,by rw[List.length_set];exact e3,fun q v' hq=>?_⟩
   by_cases hqi:q=i
   ·subst hqi
    have hql:=lt_of_get hi
    rw[List.getElem?_set_self hql] at hq
    cases hq
    obtain⟨g1,ty1,us1,c1,c2,c3,c4⟩:=h1.blk j _ hb
    have hg:g1=g∧us1=us:=by
     have hn1:N2 j=some (0,.pointer (some ⟨g1,0,none⟩)):=by
      have:=r2 (.bx j 0) (.pointer (some ⟨g1,0,none⟩)) (.bx j 0 g1 c1)
      cases this with
      |bx _ _ _ hn=>exact hn
     rw[e1] at hn1
     have hgg:g1=g:=by cases hn1;rfl
     subst hgg
     rw[c2] at e2
     cases e2
     exact⟨rfl,rfl⟩
    obtain⟨rfl,rfl⟩:=hg
    exact .sl _ _ _ _ (ow_data h1 hm (c4 q _ hi) (fun g hg=>s2 true g hg) fun v0 h0 g hg=>b2 v0 h0 true g hg)
   ·rw[List.getElem?_set_ne (Ne.symm hqi)] at hq
    exact e4 q v' hq
  ·rw[List.getElem?_set_ne (Ne.symm hjb)] at hj
   exact h2.blk j b' hj
 ·by_cases hjb:j=b
  ·subst hjb
   exact absurd (List.getElem?_set_self hlt) (hj _)
  ·exact h2.non j fun b' hb'=>hj b' (by rw[List.getElem?_set_ne (Ne.symm hjb)];exact hb')
theorem mcallZ {st:Bool} {o:Oper} {E:Operand→V} {c:Call} {f:FuncId} {pre post av:List V} {m m1 m3:List (Option Bk)} {ρ φ:List Nat} {gf:Bool} {m0 m2:List Bk} {args0:List V} {res:V} {K:V→List (Option Bk)→Prop} {k E1 sz:Nat} {xs:List (List D)} {cs:List V} (n b i:Nat) (hM:MCallsG st P f args0 m0 res m2)
  (hK:(res.co3 st (ρ++φ) m1 gf).k fun v=>forceM ((m3.set n (some (.row (k+1) E1 sz true []))).set b (some (.box (cs.set i (.sl true sz xs))))) fun m'=>K v m')
  (ln:Bool:=false) (ho:o.op= .call c:=by exact rfl) (hc:calleeV E c=some (f,pre,post):=by exact rfl) (hz:frzB ln m (pre++zA T E c.args.toList c.argTypes.toList++post)=some (av,m1):=by exact rfl)
  (_hr:(reach m1 64 (av.flatMap V.nm3) []).reverse=ρ:=by exact rfl) (hg:(av.all V.fl&&flM m1 ρ)=gf:=by exact rfl) (hab:abM ρ m1 ρ=some m0:=by exact rfl) (ha0:av.map (V.ab ρ m1)=args0:=by exact rfl)
  (hchk:(distinctB (ρ++φ)&&(freeB m1 φ&&(kindB m1 ρ m2&&Nat.beq (ρ.length+φ.length) m2.length)))=true:=by exact rfl)
  (h3:putM (fun n b=>b.co st (ρ++φ) m1 gf n) (ρ++φ) m2 m1=m3:=by exact rfl)
  (hm:m3[n]?=some (some (.row k E1 sz true xs)):=by exact rfl) (hb:m3[b]?=some (some (.box cs)):=by exact rfl) (hi:cs[i]?=some (.ow n k):=by exact rfl):
  ∃v m',OpTr P o E m v m'∧v.k fun v=>forceM m' fun m'=>K v m':=
 ⟨_,_,op_frz (by rw[←h3];exact op_mcall (T:=T) ho hc hz hg hab ha0 hM hchk) hm hb hi,hK⟩
theorem op_nil {o:Oper} {E:Operand→V} {m m':List (Option Bk)} {v:V} {b i sz:Nat} {cs:List V} (h:OpTr P o E m v m')
  (hb:m'[b]?=some (some (.box cs))) (hi:cs[i]?=some (.cv (.slice none 0 0))):OpTr P o E m v (m'.set b (some (.box (cs.set i (.sl true sz []))))):=by
 intro B w0 N S t a w hs hx Q
 refine Oper.wp_mono' (h B w0 N S t a w hs hx Q) ?_
 rintro a' w' ⟨u,he,N1,S1,h1,hr⟩
 have hlt:=lt_of_get hb
 refine⟨u,he,N1,S1,⟨h1.low,h1.nodef,h1.tmps,fun j b' hj=>?_,fun j hj=>?_,h1.apart,h1.data,h1.fresh,h1.own,h1.base,h1.old,h1.lent,h1.more,h1.stay⟩,hr⟩
 ·by_cases hjb:j=b
  ·subst hjb
   rw[List.getElem?_set_self hlt] at hj
   cases hj
   obtain⟨g,ty,us,e1,e2,e3,e4⟩:=h1.blk j _ hb
   refine⟨g,ty,us,e1,e2,by rw[List.length_set];exact e3,fun q v' hq=>?_⟩
   by_cases hqi:q=i
   ·subst hqi
    rw[List.getElem?_set_self (lt_of_get hi)] at hq
    cases hq
    have:=e4 q _ hi
    generalize us.getD q undef=z at this⊢
    cases this
    exact .sl _ _ _ _ (.nil _ _ _)
   ·rw[List.getElem?_set_ne (Ne.symm hqi)] at hq
    exact e4 q v' hq
  ·rw[List.getElem?_set_ne (Ne.symm hjb)] at hj
   exact h1.blk j b' hj
 ·by_cases hjb:j=b
  ·subst hjb
   exact absurd (List.getElem?_set_self hlt) (hj _)
  ·exact h1.non j fun b' hb'=>hj b' (by rw[List.getElem?_set_ne (Ne.symm hjb)];exact hb')
theorem mcallN {st:Bool} {o:Oper} {E:Operand→V} {c:Call} {f:FuncId} {pre post av:List V} {m m1 m3:List (Option Bk)} {ρ φ:List Nat} {gf:Bool} {m0 m2:List Bk} {args0:List V} {res:V} {K:V→List (Option Bk)→Prop} {cs:List V} (b i sz:Nat) (hM:MCallsG st P f args0 m0 res m2)
  (hK:(res.co3 st (ρ++φ) m1 gf).k fun v=>forceM (m3.set b (some (.box (cs.set i (.sl true sz []))))) fun m'=>K v m')
  (ln:Bool:=false) (ho:o.op= .call c:=by exact rfl) (hc:calleeV E c=some (f,pre,post):=by exact rfl) (hz:frzB ln m (pre++zA T E c.args.toList c.argTypes.toList++post)=some (av,m1):=by exact rfl)
  (_hr:(reach m1 64 (av.flatMap V.nm3) []).reverse=ρ:=by exact rfl) (hg:(av.all V.fl&&flM m1 ρ)=gf:=by exact rfl) (hab:abM ρ m1 ρ=some m0:=by exact rfl) (ha0:av.map (V.ab ρ m1)=args0:=by exact rfl)
  (hchk:(distinctB (ρ++φ)&&(freeB m1 φ&&(kindB m1 ρ m2&&Nat.beq (ρ.length+φ.length) m2.length)))=true:=by exact rfl)
  (h3:putM (fun n b=>b.co st (ρ++φ) m1 gf n) (ρ++φ) m2 m1=m3:=by exact rfl)
  (hb:m3[b]?=some (some (.box cs)):=by exact rfl) (hi:cs[i]?=some (.cv (.slice none 0 0)):=by exact rfl):
  ∃v m',OpTr P o E m v m'∧v.k fun v=>forceM m' fun m'=>K v m':=
 ⟨_,_,op_nil (by rw[←h3];exact op_mcall (T:=T) ho hc hz hg hab ha0 hM hchk) hb hi,hK⟩
end
end Go.Proofs.YtdccglkagfdooaaGreatDoor
