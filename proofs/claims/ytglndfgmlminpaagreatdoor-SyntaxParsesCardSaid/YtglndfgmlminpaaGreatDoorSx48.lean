/- Texts joined by pack.py: XSyZG -/
import Derived.Test.YtglndfgmlminpaaGreatDoorSx47
import Derived.Test.YtglndfgmlminpaaGreatDoorSx24
set_option maxHeartbeats 16000000
set_option maxRecDepth 100000
namespace Go.Proofs.YtglndfgmlminpaaGreatDoor
open Go.RowKit
section
variable {l:List Tok} {e:Int} {f g:Nat} {X Bl:RdF Int} {P B:Pars}
theorem rdq_assigned (ho:∀k,0≤offT e (l.drop k)) (hE:RC 147 X l e f) (hG:GoodR l 0 f X P) (hl:l.length≤1000000) (kd:Int) (t:Bs) (s:Rs) (h1:s.fl= -1) (h2:s.k≤l.length) (h3:l.length<s.k+f) (h4:s.ns.length+2*(l.length - s.k)≤2000000):
  MCalls Tryz.prog 144 [.bx 0 0,int kd,bstr t] (rM l e s) (int (asgR l e X kd t s).1) (rM l e (asgR l e X kd t s).2):=by
 generalize hR:asgR l e X kd t s=R
 unfold asgR at hR
 dsimp only at hR
 have ht:=rTake_num ho (s:=s) sEq1 h2 (.inl h1)
 have cT:=rdq_take (e:=e) (s:=s) sEq1 hl h2
 refine rcx Tryz.func144 (by kernel_rfl) (by kernel_rfl) ?_
 conv=>whnf
 refine mcall (T:=TM radM) (φ:=[]) (gf:=false) cT ?_
 clear cT
 generalize rTake l e sEq1 s=s1 at ht hR
 conv=>whnf
 refine mcall (T:=TM radM) (φ:=[]) (gf:=false) rdq_good ?_
 conv=>whnf
 rintro(_|_) hf
 rotate_left
 ·have hf:¬s1.fl<0:=by simpa using hf
  rw[if_neg hf] at hR
  subst hR
  conv=>whnf
  exact⟨rfl,rfl,rfl⟩
 have hf:s1.fl<0:=by simpa using hf
 rw[if_pos hf] at hR
 have hn:=hG.num (s:=s1) (by omega) (by omega) (by omega)
 have cE:=hE s1 (by omega) (by omega) (by omega) (by omega)
 generalize X s1=x at hn cE hR
 obtain⟨j,s2⟩:=x
 dsimp only at hn cE hR
 have ht2:=rTake_num ho (s:=s2) sSc (by omega) (by omega)
 have cT:=rdq_take (e:=e) (s:=s2) sSc hl (by omega)
 generalize rTake l e sSc s2=s3 at ht2 hR cT
 subst hR
 conv=>whnf
 refine mcall (T:=TM radM) (φ:=[]) (gf:=false) cE ?_
 conv=>whnf
 refine mcall (T:=TM radM) (φ:=[]) (gf:=false) cT ?_
 conv=>whnf
 refine mcall (T:=TM radM) (φ:=[]) (gf:=false) (rdq_add (e:=e) (s:=s3) (ndM kd t 0 [j]) (by omega)) ?_
 conv=>whnf
 exact⟨rfl,rfl,rfl⟩
theorem rdq_loop (hE:RC 147 X l e f) (hG:GoodR l 0 f X P) (hB:RC 64 Bl l e g) (hBG:GoodR l 1 g Bl B) (hl:l.length≤1000000) (s:Rs) (h1:s.fl= -1) (h2:s.k≤l.length) (h3:l.length<s.k+f) (h4:s.ns.length+2*(l.length - s.k)≤2000000) (h5:l.length<s.k+1+g):
  MCalls Tryz.prog 146 [.bx 0 0] (rM l e s) (int (whileR X Bl s).1) (rM l e (whileR X Bl s).2):=by
 generalize hR:whileR X Bl s=R
 unfold whileR at hR
 dsimp only at hR
 have hn:=hG.num h1 h2 h3
 have cE:=hE s h1 h2 h3 h4
 generalize X s=x at hn cE hR
 obtain⟨j,s1⟩:=x
 dsimp only at hn cE hR
 refine rcx Tryz.func146 (by kernel_rfl) (by kernel_rfl) ?_
 conv=>whnf
 refine mcall (T:=TM radM) (φ:=[]) (gf:=false) cE ?_
 conv=>whnf
 refine mcall (T:=TM radM) (φ:=[]) (gf:=false) rdq_good ?_
 conv=>whnf
 rintro(_|_) hf
 rotate_left
 ·have hf:¬s1.fl<0:=by simpa using hf
  rw[if_neg hf] at hR
  subst hR
  conv=>whnf
  exact⟨rfl,rfl,rfl⟩
 have hf:s1.fl<0:=by simpa using hf
 rw[if_pos hf] at hR
 have hn2:=hBG.num (s:=s1) (by omega) (by omega) (by omega)
 have cB:=hB s1 (by omega) (by omega) (by omega) (by omega)
 generalize Bl s1=x at hn2 cB hR
 obtain⟨j2,s2⟩:=x
 dsimp only at hn2 cB hR
 subst hR
 conv=>whnf
 refine mcall (T:=TM radM) (φ:=[]) (gf:=false) cB ?_
 conv=>whnf
 refine mcall (T:=TM radM) (φ:=[]) (gf:=false) (rdq_add (e:=e) (s:=s2) (ndM 16 [] 0 [j,j2]) (by omega)) ?_
 conv=>whnf
 exact⟨rfl,rfl,rfl⟩
theorem rdq_choice (hE:RC 147 X l e f) (hG:GoodR l 0 f X P) (hB:RC 64 Bl l e g) (hBG:GoodR l 1 g Bl B) (hl:l.length≤1000000) (s:Rs) (h1:s.fl= -1) (h2:s.k≤l.length) (h3:l.length<s.k+f) (h4:s.ns.length+2*(l.length - s.k)≤2000000) (h5:l.length<s.k+1+g):
  MCalls Tryz.prog 145 [.bx 0 0] (rM l e s) (int (ifR l X Bl s).1) (rM l e (ifR l X Bl s).2):=by
 generalize hR:ifR l X Bl s=R
 unfold ifR at hR
 dsimp only at hR
 have hn:=hG.num h1 h2 h3
 have cE:=hE s h1 h2 h3 h4
 generalize X s=x at hn cE hR
 obtain⟨j,s1⟩:=x
 dsimp only at hn cE hR
 refine rcx Tryz.func145 (by kernel_rfl) (by kernel_rfl) ?_
 conv=>whnf
 refine mcall (T:=TM radM) (φ:=[]) (gf:=false) cE ?_
 conv=>whnf
 refine mcall (T:=TM radM) (φ:=[]) (gf:=false) rdq_good ?_
 conv=>whnf
 rintro(_|_) hf
 rotate_left
 ·have hf:¬s1.fl<0:=by simpa using hf
  rw[if_neg hf] at hR
  subst hR
  conv=>whnf
  exact⟨rfl,rfl,rfl⟩
 have hf:s1.fl<0:=by simpa using hf
 rw[if_pos hf] at hR
 have hn2:=hBG.num (s:=s1) (by omega) (by omega) (by omega)
 have cB:=hB s1 (by omega) (by omega) (by omega) (by omega)
 generalize Bl s1=x at hn2 cB hR
 obtain⟨j2,s2⟩:=x
 dsimp only at hn2 cB hR
 conv=>whnf
 refine mcall (T:=TM radM) (φ:=[]) (gf:=false) cB ?_
 conv=>whnf
 refine mcall (T:=TM radM) (φ:=[]) (gf:=false) rdq_good ?_
 conv=>whnf
 rintro(_|_) hf2
 ·have hf2:¬s2.fl<0:=by simpa using hf2
  rw[if_neg (fun h=>hf2 h.1)] at hR
  subst hR
  repeat((conv=>whnf);first|refine known true rfl ?_|refine known false rfl ?_)
  conv=>whnf
  refine mcall (T:=TM radM) (φ:=[]) (gf:=false) (rdq_add (e:=e) (s:=s2) (ndM 15 [] 0 [j,j2]) (by omega)) ?_
  conv=>whnf
  exact⟨rfl,rfl,rfl⟩
 have hf2:s2.fl<0:=by simpa using hf2
 conv=>whnf
 refine mcall (T:=TM radM) (φ:=[]) (gf:=false) (rdq_word wElse hl) ?_
 conv=>whnf
 rintro(_|_) hw1
 ·have hw1:isWrd wElse (l.drop s2.k)=false:=hw1
  rw[if_neg (fun h=>by rw[hw1] at h;exact absurd h.2 (by decide))] at hR
  subst hR
  conv=>whnf
  refine mcall (T:=TM radM) (φ:=[]) (gf:=false) (rdq_add (e:=e) (s:=s2) (ndM 15 [] 0 [j,j2]) (by omega)) ?_
  conv=>whnf
  exact⟨rfl,rfl,rfl⟩
 have hw1:isWrd wElse (l.drop s2.k)=true:=hw1
 rw[if_pos ⟨hf2,hw1⟩] at hR
 have hlt:=tk_lt hw1
 have hw:IntKind.i64.wrap (((s2.k:Nat):Int)+1)=((s2.k+1:Nat):Int):=wrap_succ (by omega)
 have hn3:=hBG.num (s:=rAdv s2) (by(try dsimp only);omega) hlt (by(try dsimp only);omega)
 have cB:=hB (rAdv s2) (by(try dsimp only);omega) hlt (by(try dsimp only);omega) (by(try dsimp only);omega)
 dsimp only[rAdv] at hn3 cB hR
 generalize Bl ⟨s2.k+1,s2.ns,s2.fl⟩=x at hn3 cB hR
 obtain⟨j3,s3⟩:=x
 dsimp only at hn3 cB hR
 subst hR
 conv=>whnf
 rw[hw]
 conv=>whnf
 refine mcall (T:=TM radM) (φ:=[]) (gf:=false) cB ?_
 conv=>whnf
 refine⟨(show(2+1)*8≤140737488355328 by decide),?_⟩
 conv=>whnf
 refine mcall (T:=TM radM) (φ:=[]) (gf:=false) (rdq_add (e:=e) (s:=s3) (ndM 15 [] 0 [j,j2,j3]) (by omega)) ?_
 conv=>whnf
 exact⟨rfl,rfl,rfl⟩
theorem rdq_stmt (ho:∀k,0≤offT e (l.drop k)) (hE:RC 147 X l e (g+1)) (hG:GoodR l 0 (g+1) X P) (hB:RC 64 Bl l e g) (hBG:GoodR l 1 g Bl B) (hl:l.length≤1000000):RC 106 (stmtR l e X Bl) l e (g+1):=by
 intro s h1 h2 h3 h4
 generalize hR:stmtR l e X Bl s=R
 unfold stmtR at hR
 dsimp only[rAdv] at hR
 have hw:s.k<l.length→IntKind.i64.wrap (((s.k:Nat):Int)+1)=((s.k+1:Nat):Int):=fun _=>wrap_succ (by omega)
 refine rcx Tryz.func106 (by kernel_rfl) (by kernel_rfl) ?_
 conv=>whnf
 refine mcall (T:=TM radM) (φ:=[]) (gf:=false) (rdq_word wLet hl) ?_
 rcases cLet:isWrd wLet (l.drop s.k) with _|_
 rotate_left
 ·rw[if_pos cLet] at hR
  have hlt:=tk_lt cLet
  have hw:=hw hlt
  conv=>whnf
  refine known true rfl ?_
  conv=>whnf
  rw[hw]
  have cN:=rdq_name (e:=e) (s:=rAdv s) hl hlt
  dsimp only[rAdv] at cN
  rcases name_fin ho (k:=s.k+1) (ns:=s.ns) with⟨n1,n2,n3⟩|⟨n2,n3,n4⟩
  ·rw[h1,n3] at hR cN
   dsimp only at hR cN
   rw[if_pos (show(-1:Int)<0 by decide)] at hR
   rw[h1]
   conv=>whnf
   refine mcall (T:=TM radM) (φ:=[]) (gf:=false) cN ?_
   conv=>whnf
   refine mcall (T:=TM radM) (φ:=[]) (gf:=false) (rdq_good (s:=⟨s.k+1+1,s.ns,-1⟩)) ?_
   conv=>whnf
   refine known false rfl ?_
   conv=>whnf
   refine mcall (T:=TM radM) (φ:=[]) (gf:=false) (rdq_assigned ho hE hG hl 13 (pText (l.drop (s.k+1))) ⟨s.k+1+1,s.ns,-1⟩ rfl n1 (by(try dsimp only);omega) (by(try dsimp only);omega)) ?_
   subst hR
   conv=>whnf
   exact⟨rfl,rfl,rfl⟩
  ·rw[h1,n3] at hR cN
   dsimp only at hR cN
   rw[if_neg (by omega)] at hR
   subst hR
   rw[h1]
   conv=>whnf
   refine mcall (T:=TM radM) (φ:=[]) (gf:=false) cN ?_
   conv=>whnf
   refine mcall (T:=TM radM) (φ:=[]) (gf:=false) (rdq_good (s:=⟨s.k+1,s.ns,offT e (l.drop (s.k+1))⟩)) ?_
   conv=>whnf
   refine known true (by simp;omega) ?_
   conv=>whnf
   exact⟨rfl,rfl,rfl⟩
 rw[if_neg (by rw[cLet];simp)] at hR
 conv=>whnf
 refine known false rfl ?_
 conv=>whnf
 refine mcall (T:=TM radM) (φ:=[]) (gf:=false) (rdq_word wIf hl) ?_
 rcases cIf:isWrd wIf (l.drop s.k) with _|_
 rotate_left
 ·rw[if_pos cIf] at hR
  have hlt:=tk_lt cIf
  have hw:=hw hlt
  conv=>whnf
  refine known true rfl ?_
  conv=>whnf
  rw[hw]
  conv=>whnf
  refine mcall (T:=TM radM) (φ:=[]) (gf:=false) (rdq_choice hE hG hB hBG hl (rAdv s) h1 hlt (by(try dsimp only);omega) (by(try dsimp only);omega) (by(try dsimp only);omega)) ?_
  subst hR
  conv=>whnf
  exact⟨rfl,rfl,rfl⟩
 rw[if_neg (by rw[cIf];simp)] at hR
 conv=>whnf
 refine known false rfl ?_
 conv=>whnf
 refine mcall (T:=TM radM) (φ:=[]) (gf:=false) (rdq_word wWhile hl) ?_
 rcases cWh:isWrd wWhile (l.drop s.k) with _|_
 rotate_left
 ·rw[if_pos cWh] at hR
  have hlt:=tk_lt cWh
  have hw:=hw hlt
  conv=>whnf
  refine known true rfl ?_
  conv=>whnf
  rw[hw]
  conv=>whnf
  refine mcall (T:=TM radM) (φ:=[]) (gf:=false) (rdq_loop hE hG hB hBG hl (rAdv s) h1 hlt (by(try dsimp only);omega) (by(try dsimp only);omega) (by(try dsimp only);omega)) ?_
  subst hR
  conv=>whnf
  exact⟨rfl,rfl,rfl⟩
 rw[if_neg (by rw[cWh];simp)] at hR
 conv=>whnf
 refine known false rfl ?_
 conv=>whnf
 refine⟨none,by kernel_rfl,?_⟩
 conv=>whnf
 refine mcall (T:=TM radM) (φ:=[]) (gf:=false) (rdq_kind hl) ?_
 have hll:(l.map tokD).length=l.length:=List.length_map _
 by_cases c1:pKind (l.drop s.k)=1
 rotate_left
 ·have hA:assigns (l.drop s.k)=false:=by
   cases hd:l.drop s.k with
   |nil=>rfl
   |cons t r=>
    rw[hd] at c1
    have:decide (t.kind=1)=false:=by simpa[pKind] using c1
    simp only[assigns,this,Bool.false_and]
  conv=>whnf
  refine known false (by simpa using c1) ?_
  repeat((conv=>whnf);first|refine known true rfl ?_|refine known false rfl ?_)
  rw[if_neg (by rw[hA];simp)] at hR
  conv=>whnf
  refine mcall (T:=TM radM) (φ:=[]) (gf:=false) (rdq_word wReturn hl) ?_
  rcases cRe:isWrd wReturn (l.drop s.k) with _|_
  ·rw[if_neg (by rw[cRe];simp)] at hR
   conv=>whnf
   refine known false rfl ?_
   unfold doR at hR
   have hn:=hG.num h1 h2 h3
   have cE:=hE s h1 h2 h3 h4
   generalize X s=x at hn cE hR
   obtain⟨j,s2⟩:=x
   dsimp only at hn cE hR
   have ht2:=rTake_num ho (s:=s2) sSc (by omega) (by omega)
   have cT:=rdq_take (e:=e) (s:=s2) sSc hl (by omega)
   generalize rTake l e sSc s2=s3 at ht2 hR cT
   subst hR
   conv=>whnf
   refine mcall (T:=TM radM) (φ:=[]) (gf:=false) cE ?_
   conv=>whnf
   refine mcall (T:=TM radM) (φ:=[]) (gf:=false) cT ?_
   conv=>whnf
   refine mcall (T:=TM radM) (φ:=[]) (gf:=false) (rdq_add (e:=e) (s:=s3) (ndM 18 [] 0 [j]) (by omega)) ?_
   conv=>whnf
   exact⟨rfl,rfl,rfl⟩
  rw[if_pos cRe] at hR
  have hlt:=tk_lt cRe
  have hw:=hw hlt
  conv=>whnf
  refine known true rfl ?_
  unfold doR at hR
  have hn:=hG.num (s:=rAdv s) h1 hlt (by(try dsimp only);omega)
  have cE:=hE (rAdv s) h1 hlt (by(try dsimp only);omega) (by(try dsimp only);omega)
  dsimp only[rAdv] at hn cE
  generalize X ⟨s.k+1,s.ns,s.fl⟩=x at hn cE hR
  obtain⟨j,s2⟩:=x
  dsimp only at hn cE hR
  have ht2:=rTake_num ho (s:=s2) sSc (by omega) (by omega)
  have cT:=rdq_take (e:=e) (s:=s2) sSc hl (by omega)
  generalize rTake l e sSc s2=s3 at ht2 hR cT
  subst hR
  conv=>whnf
  rw[hw]
  conv=>whnf
  refine mcall (T:=TM radM) (φ:=[]) (gf:=false) cE ?_
  conv=>whnf
  refine mcall (T:=TM radM) (φ:=[]) (gf:=false) cT ?_
  conv=>whnf
  refine mcall (T:=TM radM) (φ:=[]) (gf:=false) (rdq_add (e:=e) (s:=s3) (ndM 17 [] 0 [j]) (by omega)) ?_
  conv=>whnf
  exact⟨rfl,rfl,rfl⟩
 have hlt:=kind_lt c1 (by decide)
 have hwk:=hw hlt
 have hd:=dropE1 hlt
 have ck:l[s.k].kind=1:=by rw[hd] at c1;exact c1
 have hAe:assigns (l.drop s.k)=isSym sEq1 (l.drop (s.k+1)):=by rw[hd];simp[assigns,ck]
 conv=>whnf
 refine known true (by simpa using c1) ?_
 rcases Nat.lt_or_ge (s.k+1) l.length with hk1|hk1
 rotate_left
 ·have hA:assigns (l.drop s.k)=false:=by rw[hAe,List.drop_eq_nil_of_le hk1];rfl
  conv=>whnf
  refine known false (by rw[hwk,hll];simp;omega) ?_
  repeat((conv=>whnf);first|refine known true rfl ?_|refine known false rfl ?_)
  rw[if_neg (by rw[hA];simp)] at hR
  conv=>whnf
  refine mcall (T:=TM radM) (φ:=[]) (gf:=false) (rdq_word wReturn hl) ?_
  rcases cRe:isWrd wReturn (l.drop s.k) with _|_
  ·rw[if_neg (by rw[cRe];simp)] at hR
   conv=>whnf
   refine known false rfl ?_
   unfold doR at hR
   have hn:=hG.num h1 h2 h3
   have cE:=hE s h1 h2 h3 h4
   generalize X s=x at hn cE hR
   obtain⟨j,s2⟩:=x
   dsimp only at hn cE hR
   have ht2:=rTake_num ho (s:=s2) sSc (by omega) (by omega)
   have cT:=rdq_take (e:=e) (s:=s2) sSc hl (by omega)
   generalize rTake l e sSc s2=s3 at ht2 hR cT
   subst hR
   conv=>whnf
   refine mcall (T:=TM radM) (φ:=[]) (gf:=false) cE ?_
   conv=>whnf
   refine mcall (T:=TM radM) (φ:=[]) (gf:=false) cT ?_
   conv=>whnf
   refine mcall (T:=TM radM) (φ:=[]) (gf:=false) (rdq_add (e:=e) (s:=s3) (ndM 18 [] 0 [j]) (by omega)) ?_
   conv=>whnf
   exact⟨rfl,rfl,rfl⟩
  rw[if_pos cRe] at hR
  have hlt:=tk_lt cRe
  have hw:=hw hlt
  conv=>whnf
  refine known true rfl ?_
  unfold doR at hR
  have hn:=hG.num (s:=rAdv s) h1 hlt (by(try dsimp only);omega)
  have cE:=hE (rAdv s) h1 hlt (by(try dsimp only);omega) (by(try dsimp only);omega)
  dsimp only[rAdv] at hn cE
  generalize X ⟨s.k+1,s.ns,s.fl⟩=x at hn cE hR
  obtain⟨j,s2⟩:=x
  dsimp only at hn cE hR
  have ht2:=rTake_num ho (s:=s2) sSc (by omega) (by omega)
  have cT:=rdq_take (e:=e) (s:=s2) sSc hl (by omega)
  generalize rTake l e sSc s2=s3 at ht2 hR cT
  subst hR
  conv=>whnf
  rw[hw]
  conv=>whnf
  refine mcall (T:=TM radM) (φ:=[]) (gf:=false) cE ?_
  conv=>whnf
  refine mcall (T:=TM radM) (φ:=[]) (gf:=false) cT ?_
  conv=>whnf
  refine mcall (T:=TM radM) (φ:=[]) (gf:=false) (rdq_add (e:=e) (s:=s3) (ndM 17 [] 0 [j]) (by omega)) ?_
  conv=>whnf
  exact⟨rfl,rfl,rfl⟩
 have hi0:0≤IntKind.i64.wrap (((s.k:Nat):Int)+1):=by rw[hwk];omega
 have hgt:(l.map tokD)[(IntKind.i64.wrap (((s.k:Nat):Int)+1)).toNat]?=some (tokD l[s.k+1]):=by rw[hwk];exact get_map tokD hk1
 conv=>whnf
 refine known true (by rw[hwk,hll];simp;omega) ?_
 conv=>whnf
 refine⟨hi0,_,hgt,?_⟩
 by_cases c5:l[s.k+1].kind=5
 rotate_left
 ·have hA:assigns (l.drop s.k)=false:=by rw[hAe,show isSym sEq1 (l.drop (s.k+1))=(decide (l[s.k+1].kind=5)&&(l[s.k+1].text==sEq1)) from isTk_at 5 sEq1 hk1];simp[c5]
  conv=>whnf
  refine known false (by simpa using c5) ?_
  repeat((conv=>whnf);first|refine known true rfl ?_|refine known false rfl ?_)
  rw[if_neg (by rw[hA];simp)] at hR
  conv=>whnf
  refine mcall (T:=TM radM) (φ:=[]) (gf:=false) (rdq_word wReturn hl) ?_
  rcases cRe:isWrd wReturn (l.drop s.k) with _|_
  ·rw[if_neg (by rw[cRe];simp)] at hR
   conv=>whnf
   refine known false rfl ?_
   unfold doR at hR
   have hn:=hG.num h1 h2 h3
   have cE:=hE s h1 h2 h3 h4
   generalize X s=x at hn cE hR
   obtain⟨j,s2⟩:=x
   dsimp only at hn cE hR
   have ht2:=rTake_num ho (s:=s2) sSc (by omega) (by omega)
   have cT:=rdq_take (e:=e) (s:=s2) sSc hl (by omega)
   generalize rTake l e sSc s2=s3 at ht2 hR cT
   subst hR
   conv=>whnf
   refine mcall (T:=TM radM) (φ:=[]) (gf:=false) cE ?_
   conv=>whnf
   refine mcall (T:=TM radM) (φ:=[]) (gf:=false) cT ?_
   conv=>whnf
   refine mcall (T:=TM radM) (φ:=[]) (gf:=false) (rdq_add (e:=e) (s:=s3) (ndM 18 [] 0 [j]) (by omega)) ?_
   conv=>whnf
   exact⟨rfl,rfl,rfl⟩
  rw[if_pos cRe] at hR
  have hlt:=tk_lt cRe
  have hw:=hw hlt
  conv=>whnf
  refine known true rfl ?_
  unfold doR at hR
  have hn:=hG.num (s:=rAdv s) h1 hlt (by(try dsimp only);omega)
  have cE:=hE (rAdv s) h1 hlt (by(try dsimp only);omega) (by(try dsimp only);omega)
  dsimp only[rAdv] at hn cE
  generalize X ⟨s.k+1,s.ns,s.fl⟩=x at hn cE hR
  obtain⟨j,s2⟩:=x
  dsimp only at hn cE hR
  have ht2:=rTake_num ho (s:=s2) sSc (by omega) (by omega)
  have cT:=rdq_take (e:=e) (s:=s2) sSc hl (by omega)
  generalize rTake l e sSc s2=s3 at ht2 hR cT
  subst hR
  conv=>whnf
  rw[hw]
  conv=>whnf
  refine mcall (T:=TM radM) (φ:=[]) (gf:=false) cE ?_
  conv=>whnf
  refine mcall (T:=TM radM) (φ:=[]) (gf:=false) cT ?_
  conv=>whnf
  refine mcall (T:=TM radM) (φ:=[]) (gf:=false) (rdq_add (e:=e) (s:=s3) (ndM 17 [] 0 [j]) (by omega)) ?_
  conv=>whnf
  exact⟨rfl,rfl,rfl⟩
 conv=>whnf
 refine known true (by simpa using c5) ?_
 conv=>whnf
 refine⟨hi0,_,hgt,?_⟩
 by_cases c6:l[s.k+1].text=sEq1
 rotate_left
 ·have hA:assigns (l.drop s.k)=false:=by rw[hAe,show isSym sEq1 (l.drop (s.k+1))=(decide (l[s.k+1].kind=5)&&(l[s.k+1].text==sEq1)) from isTk_at 5 sEq1 hk1];simp[c6]
  conv=>whnf
  refine known false (snE c6) ?_
  rw[if_neg (by rw[hA];simp)] at hR
  conv=>whnf
  refine mcall (T:=TM radM) (φ:=[]) (gf:=false) (rdq_word wReturn hl) ?_
  rcases cRe:isWrd wReturn (l.drop s.k) with _|_
  ·rw[if_neg (by rw[cRe];simp)] at hR
   conv=>whnf
   refine known false rfl ?_
   unfold doR at hR
   have hn:=hG.num h1 h2 h3
   have cE:=hE s h1 h2 h3 h4
   generalize X s=x at hn cE hR
   obtain⟨j,s2⟩:=x
   dsimp only at hn cE hR
   have ht2:=rTake_num ho (s:=s2) sSc (by omega) (by omega)
   have cT:=rdq_take (e:=e) (s:=s2) sSc hl (by omega)
   generalize rTake l e sSc s2=s3 at ht2 hR cT
   subst hR
   conv=>whnf
   refine mcall (T:=TM radM) (φ:=[]) (gf:=false) cE ?_
   conv=>whnf
   refine mcall (T:=TM radM) (φ:=[]) (gf:=false) cT ?_
   conv=>whnf
   refine mcall (T:=TM radM) (φ:=[]) (gf:=false) (rdq_add (e:=e) (s:=s3) (ndM 18 [] 0 [j]) (by omega)) ?_
   conv=>whnf
   exact⟨rfl,rfl,rfl⟩
  rw[if_pos cRe] at hR
  have hlt:=tk_lt cRe
  have hw:=hw hlt
  conv=>whnf
  refine known true rfl ?_
  unfold doR at hR
  have hn:=hG.num (s:=rAdv s) h1 hlt (by(try dsimp only);omega)
  have cE:=hE (rAdv s) h1 hlt (by(try dsimp only);omega) (by(try dsimp only);omega)
  dsimp only[rAdv] at hn cE
  generalize X ⟨s.k+1,s.ns,s.fl⟩=x at hn cE hR
  obtain⟨j,s2⟩:=x
  dsimp only at hn cE hR
  have ht2:=rTake_num ho (s:=s2) sSc (by omega) (by omega)
  have cT:=rdq_take (e:=e) (s:=s2) sSc hl (by omega)
  generalize rTake l e sSc s2=s3 at ht2 hR cT
  subst hR
  conv=>whnf
  rw[hw]
  conv=>whnf
  refine mcall (T:=TM radM) (φ:=[]) (gf:=false) cE ?_
  conv=>whnf
  refine mcall (T:=TM radM) (φ:=[]) (gf:=false) cT ?_
  conv=>whnf
  refine mcall (T:=TM radM) (φ:=[]) (gf:=false) (rdq_add (e:=e) (s:=s3) (ndM 17 [] 0 [j]) (by omega)) ?_
  conv=>whnf
  exact⟨rfl,rfl,rfl⟩
 have hA:assigns (l.drop s.k)=true:=by rw[hAe,show isSym sEq1 (l.drop (s.k+1))=(decide (l[s.k+1].kind=5)&&(l[s.k+1].text==sEq1)) from isTk_at 5 sEq1 hk1];simp[c5,c6]
 rw[if_pos hA] at hR
 conv=>whnf
 refine known true (by rw[c6];exact(litE sEq1 #[61]).trans rfl) ?_
 have cN:=rdq_name (e:=e) (s:=s) hl h2
 rw[rName_y c1] at cN
 conv=>whnf
 refine mcall (T:=TM radM) (φ:=[]) (gf:=false) cN ?_
 conv=>whnf
 refine mcall (T:=TM radM) (φ:=[]) (gf:=false) (rdq_assigned ho hE hG hl 14 (pText (l.drop s.k)) (rAdv s) h1 hlt (by(try dsimp only);omega) (by(try dsimp only);omega)) ?_
 subst hR
 conv=>whnf
 exact⟨rfl,rfl,rfl⟩
end
end Go.Proofs.YtglndfgmlminpaaGreatDoor
