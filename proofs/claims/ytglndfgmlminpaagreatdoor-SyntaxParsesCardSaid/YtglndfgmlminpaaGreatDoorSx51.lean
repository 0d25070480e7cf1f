/- Texts joined by pack.py: XSyZJ XSyN4 -/
import Derived.Test.YtglndfgmlminpaaGreatDoorSx49
import Derived.Test.YtglndfgmlminpaaGreatDoorSx37
import Derived.Test.YtglndfgmlminpaaGreatDoorSx40
import Derived.Test.YtglndfgmlminpaaGreatDoorSx36
import Derived.Test.YtglndfgmlminpaaGreatDoorSx41
set_option maxHeartbeats 16000000
set_option maxRecDepth 100000
namespace Go.Proofs.YtglndfgmlminpaaGreatDoor
open Go.RowKit
section
variable {l:List Tok} {e:Int}
theorem rdq_exprs (ho:∀k,0≤offT e (l.drop k)) (hl:l.length≤1000000):∀f,RC 147 (exprR l e f) l e f
 |0=>fun s _ h2 h3 _=>absurd h3 (by omega)
 |f+1=>by
  have hE:=rdq_exprs ho hl f
  have hG:=exprR_good ho f
  have hA:AtP e (exprP e f):=exprP_at f
  have hC:EatsP (exprP e f):=exprP_eats f
  have c1:=rdq_prim ho hE hG hA hC hl
  have c2:=rdq_post ho c1 (primG_good ho hG hA hC) hE hG hl
  have c3:RC 256 (unaryG l e (exprR l e f)) l e (f+1):=fun s h1 h2 h3 h4=>rdq_unary ho hG hA hC c2 hl (l.length - s.k) s h1 h2 h3 h4 (by omega)
  have g3:=unaryG_good ho hG hA hC
  have c4:=rdq_term c3 g3 hl
  have c5:=rdq_sum c4 (chainG_good g3) hl
  have c6:RC 219 (cmpG l e (exprR l e f)) l e (f+1):=rdq_cmp c5 (sumG_good ho hG hA hC) hl
  have c7:RC 202 (notG l e (exprR l e f)) l e (f+1):=fun s h1 h2 h3 h4=>rdq_not ho hG hA hC c6 hl (l.length - s.k) s h1 h2 h3 h4 (by omega)
  have g7:=notG_good ho hG hA hC
  have c8:=rdq_and c7 g7 hl
  exact rdq_expr c8 (chainG_good g7) hl
theorem rdq_blocks (ho:∀k,0≤offT e (l.drop k)) (hl:l.length≤1000000):∀f,RC 64 (blockR l e f) l e f
 |0=>fun s _ h2 h3 _=>absurd h3 (by omega)
 |f+1=>by
  have c1:=rdq_stmt (g:=f) ho (rdq_exprs ho hl (f+1)) (exprR_good ho (f+1)) (rdq_blocks ho hl f) (blockR_good ho f) hl
  have g1:=stmtR_good ho (F:=f) (f:=f+1) (exprR_good ho (f+1)) (blockR_good ho f)
  have c2:=rdq_block ho c1 g1 hl
  exact fun s h1 h2 h3 h4=>c2 s h1 h2 (by omega) h4
end
abbrev rparV (x:Pg×Int×Int):V:= .tu [x.1.V,int x.2.1,int x.2.2]
def planZP7:Plan:= .pull 0 (.alt 1 (.one 2 (.one 3 (.one 4 (.one 5 (.one 6 .done))))) (.alt 2 (.one 1 (.one 3 (.one 4 (.one 5 (.one 6 .done))))) .stop))
def planZP9:Plan:= .one 0 (.pull 1 (.alt 2 (.one 3 (.one 4 (.one 5 .done))) (.alt 3 (.one 2 (.one 4 (.one 5 .done))) .stop)))
theorem func_num {l:List Tok} {e:Int} (ho:∀k,0≤offT e (l.drop k)) {f:Nat} {s:Rs} (h1:s.fl= -1) (h2:s.k≤l.length) (h3:l.length<s.k+f):((funcR l e (blockR l e f) s).2.fl= -1∧s.k<(funcR l e (blockR l e f) s).2.k∧(funcR l e (blockR l e f) s).2.k≤l.length∧(funcR l e (blockR l e f) s).2.ns.length+s.k≤s.ns.length+(funcR l e (blockR l e f) s).2.k)∨(0≤(funcR l e (blockR l e f) s).2.fl∧s.k≤(funcR l e (blockR l e f) s).2.k∧(funcR l e (blockR l e f) s).2.k≤l.length∧(funcR l e (blockR l e f) s).2.ns.length+2*s.k≤s.ns.length+2*(funcR l e (blockR l e f) s).2.k+0):=(show Fin l 0 s (funcP e f (l.drop s.k) s.ns) (funcR l e (blockR l e f) s) from by
 obtain⟨k,ns,fl⟩:=s
 cases h1
 exact funcR_good ho (blockR_good ho f) h2 h3).num
theorem x_rparseT (s:Bs) (hs:s.length≤281474976710656) (hof:∀k,0≤offT (s.length:Int) ((tokens s).1.drop k)):DCalls Tryz.prog 10 [bstr s] (rparV (parseP s)):=by
 have htk:=x_rtokens s hs
 have hfew:=tokens_few s
 have hok:=@prog_ok s
 generalize hR:parseP s=R
 unfold parseP at hR
 unfold progP at hR hok
 generalize tokens s=tk at*
 obtain⟨l,at_,er⟩:=tk
 dsimp only at*
 have hsz:(mk s).size=s.length:=rfl
 have hll:(l.map tokD).length=l.length:=List.length_map _
 refine sxm radM Tryz.func10 (by kernel_rfl) ?_
 conv=>whnf
 refine⟨_,htk,?_⟩
 by_cases her:er=0
 rotate_left
 ·rw[if_pos her] at hR
  subst hR
  conv=>whnf
  refine known true (by simpa using her) ?_
  conv=>whnf
  rfl
 rw[if_neg (by simpa using her)] at hR
 conv=>whnf
 refine known false (by simpa using her) ?_
 have hfin:=prog_fin hof (blockR_good hof (l.length+1)) l.length [] 0 [] (Nat.zero_le _) (by omega) (by omega)
 rw[List.drop_zero] at hfin
 generalize hX:progR l s.length (blockR l s.length (l.length+1)) l.length [] ⟨0,[],-1⟩=X at hfin
 conv=>whnf
 refine⟨[(1008003,10,58,5),(1009001,11,53,3)],List Fc×Rs,fun _=>[],fun⟨fs,s1⟩=>[(8,some (.box [.sl true 4 (l.map tokD),int (s1.k:Nat),int (s.length:Nat),.ow 10 0,int s1.fl])),(10,some (.row 0 58 5 true (s1.ns.map ndD))),(11,some (.row 0 53 3 true (fs.map fcD)))],
  fun⟨fs,s1⟩=>∃g,RdIn l (l.length+1) s1∧fs.length≤s1.k+1∧(s1.fl<0→fs.length≤s1.k∧l.length≤s1.k+g)∧progR l s.length (blockR l s.length (l.length+1)) g fs s1=X,fun⟨_,s1⟩=>if s1.fl<0 then l.length - s1.k+1 else 0,([],⟨0,[],-1⟩),⟨_,.inl ⟨rfl,Nat.zero_le _,by(try dsimp only);omega,by simp;omega⟩,by simp,fun _=>⟨by simp,by(try dsimp only);omega⟩,hX⟩,?_,?_⟩
 ·refine⟨rfl,?_,?_⟩<;>repeat' (first|exact trivial|exact rfl|refine and_rfl ?_|refine and_two ?_ ?_)
 rintro⟨fs,s1⟩ ⟨g,hI,hj,hg,hX⟩
 rcases hI with⟨h1,h2,h3,h4⟩|⟨h1,h2,h3⟩
 rotate_left
 ·have hXs:X=(fs,s1):=by rw[←hX];exact progR_f g fs h1
  subst hXs
  conv=>whnf
  refine mcall (T:=TM radM) (φ:=[]) (rdq_good (l:=l) (e:=(s.length:Int)) (s:=s1)) ?_
  conv=>whnf
  refine known false (by simp;omega) ?_
  conv=>whnf
  refine mcall (T:=TM radM) (φ:=[]) (rdq_good (l:=l) (e:=(s.length:Int)) (s:=s1)) ?_
  conv=>whnf
  refine known true (by simp;omega) ?_
  cases hp:progF (s.length:Int) (l.length+1) l.length [] l [] with
  |ok p=>
   rw[hp] at hfin
   have h5:s1.fl= -1:=by have:=congrArg (fun x=>x.2.fl) hfin;exact this
   omega
  |error o=>
   rw[hp] at hfin hR
   obtain⟨_,h5⟩:=hfin
   subst hR
   subst h5
   conv=>whnf
   refine⟨some planZP9,by kernel_rfl,?_⟩
   conv=>whnf
   refine⟨.bx 8 4,fun m2 K2 hK=>hK,?_⟩
   conv=>whnf
   refine And.intro ?_ ?_
   ·conv=>whnf
    rfl
   ·conv=>whnf
    refine⟨?_,by exact trivial⟩
    conv=>whnf
    rfl
 obtain⟨hg1,hg2⟩:=hg (by omega)
 conv=>whnf
 refine mcall (T:=TM radM) (φ:=[]) (rdq_good (l:=l) (e:=(s.length:Int)) (s:=s1)) ?_
 conv=>whnf
 refine known true (by simp;omega) ?_
 rcases Nat.lt_or_ge s1.k l.length with hk|hk
 rotate_left
 ·have hXs:X=(fs,s1):=by
   rw[←hX]
   cases g with
   |zero=>rfl
   |succ g=>unfold progR;rw[if_neg (fun h=>by omega)]
  subst hXs
  conv=>whnf
  refine known false (by simp;omega) ?_
  conv=>whnf
  refine mcall (T:=TM radM) (φ:=[]) (rdq_good (l:=l) (e:=(s.length:Int)) (s:=s1)) ?_
  conv=>whnf
  refine known false (by simp;omega) ?_
  cases hp:progF (s.length:Int) (l.length+1) l.length [] l [] with
  |error o=>
   rw[hp] at hfin
   have h5:s1.fl=o:=hfin.2
   have:=hfin.1
   omega
  |ok p=>
   have hpk:=hok hp
   rw[hp] at hfin hR
   obtain⟨pn,pf⟩:=p
   have e1:fs=pf:=congrArg (fun x=>x.1) hfin
   have e2:s1=⟨l.length,pn,-1⟩:=congrArg (fun x=>x.2) hfin
   subst e1 e2
   dsimp only at hR
   conv=>whnf
   refine⟨_,x_rcheck ⟨pn,fs⟩ hpk,?_⟩
   by_cases hck:checkP ⟨pn,fs⟩=0
   ·rw[if_neg (by simpa using hck)] at hR
    subst hR
    conv=>whnf
    refine known false (by simpa using hck) ?_
    conv=>whnf
   ·rw[if_pos (by simpa using hck)] at hR
    subst hR
    conv=>whnf
    refine known true (by simpa using hck) ?_
    conv=>whnf
    rfl
 conv=>whnf
 refine known true (by simp;omega) ?_
 conv=>whnf
 refine⟨some planZP7,by kernel_rfl,?_⟩
 obtain⟨g,rfl⟩:∃g',g=g'+1:=⟨g - 1,by omega⟩
 have hst:progR l s.length (blockR l s.length (l.length+1)) (g+1) fs s1=progR l s.length (blockR l s.length (l.length+1)) g (fs++[(funcR l s.length (blockR l s.length (l.length+1)) s1).1]) (funcR l s.length (blockR l s.length (l.length+1)) s1).2:=by
  conv=>lhs;unfold progR
  rw[if_pos ⟨by omega,hk⟩]
 rw[hst] at hX
 have hnum:=func_num hof (f:=l.length+1) h1 h2 h3
 have hF:=rdq_function hof (rdq_blocks hof (by omega) (l.length+1)) (by omega) s1 h1 h2 h3 h4
 generalize funcR l s.length (blockR l s.length (l.length+1)) s1=X1 at*
 have hin:RdIn l (l.length+1) X1.2:=by
  rcases hnum with⟨n1,n2,n3,n4⟩|⟨n1,n2,n3,n4⟩
  ·exact .inl ⟨n1,n3,by omega,by omega⟩
  ·exact .inr ⟨n1,n3,by omega⟩
 have hlen:(fs++[X1.1]).length≤X1.2.k+1:=by
  rw[List.length_append,List.length_singleton]
  rcases hnum with⟨n1,n2,n3,n4⟩|⟨n1,n2,n3,n4⟩<;>omega
 have hgo:X1.2.fl<0→(fs++[X1.1]).length≤X1.2.k∧l.length≤X1.2.k+g:=by
  rw[List.length_append,List.length_singleton]
  intro hn
  rcases hnum with⟨n1,n2,n3,n4⟩|⟨n1,n2,n3,n4⟩
  ·exact⟨by omega,by omega⟩
  ·omega
 have hmu:(if X1.2.fl<0 then l.length - X1.2.k+1 else 0)<(if s1.fl<0 then l.length - s1.k+1 else 0):=by
  rw[if_pos (show s1.fl<0 by omega)]
  split
  ·rcases hnum with⟨n1,n2,n3,n4⟩|⟨n1,n2,n3,n4⟩<;>omega
  ·omega
 have hap:fs.map fcD++[fcD X1.1]=(fs++[X1.1]).map fcD:=by simp
 conv=>whnf
 refine⟨.bx 9 1,fun m2 K2 hK=>hK,?_⟩
 conv=>whnf
 refine And.intro ?_ ?_
 ·conv=>whnf
  refine mcall (T:=TM radM) (φ:=[]) hF ?_
  conv=>whnf
  refine⟨by simp;omega,?_⟩
  conv=>whnf
  refine⟨(fs++[X1.1],X1.2),⟨g,hin,hlen,hgo,hX⟩,hmu,?_⟩
  refine⟨rfl,?_,?_⟩<;>repeat' (first|exact trivial|exact rfl|exact hap|refine and_rfl ?_|refine and_val hap ?_|refine and_two ?_ ?_)
 ·conv=>whnf
  refine⟨?_,by exact trivial⟩
  conv=>whnf
  refine mcall (T:=TM radM) (φ:=[]) hF ?_
  conv=>whnf
  refine⟨by simp;omega,?_⟩
  conv=>whnf
  refine⟨(fs++[X1.1],X1.2),⟨g,hin,hlen,hgo,hX⟩,hmu,?_⟩
  refine⟨rfl,?_,?_⟩<;>repeat' (first|exact trivial|exact rfl|exact hap|refine and_rfl ?_|refine and_val hap ?_|refine and_two ?_ ?_)
end Go.Proofs.YtglndfgmlminpaaGreatDoor
namespace Go.Proofs.YtglndfgmlminpaaGreatDoor
open Go.RowKit
theorem toks_at:∀(f:Nat) (l:Bs) (n:Nat) (out:List Tok),(∀t∈out,0≤t.at_)→∀t∈(toksF f l n out).1,0≤t.at_
 |0,_,_,out,h=>h
 |f+1,l,n,out,h=>by
  unfold toksF
  split
  ·exact h
  split
  ·intro t ht;cases ht
  split
  ·refine toks_at f _ _ _ fun t ht=>?_
   rcases List.mem_append.1 ht with ht|ht
   ·exact h t ht
   ·rw[List.mem_singleton] at ht
    subst ht
    exact Int.natCast_nonneg _
  ·intro t ht;cases ht
theorem tokens_at (s:Bs):∀t∈(tokens s).1,0≤t.at_:=by
 unfold tokens
 split
 ·intro t ht;cases ht
 ·exact toks_at _ _ _ _ fun t ht=>by cases ht
theorem offT_pos {e:Int} (he:0≤e) {l:List Tok} (h:∀t∈l,0≤t.at_) (k:Nat):0≤offT e (l.drop k):=by
 cases hd:l.drop k with
 |nil=>exact he
 |cons t r=>exact h t (List.mem_of_mem_drop (i:=k) (by rw[hd];exact List.mem_cons_self))
theorem x_lawParses (haw:AwakeS) (s:Bs) (hs:s.length≤281474976710656):DCalls Tryz.prog 3 [bstr s] (boo true):=by
 have h1:=x_sparseP s hs
 have h2:=x_rparseT s hs (offT_pos (Int.natCast_nonneg _) (tokens_at s))
 have h3:=x_rsame (parseP s).1 (parseP s).1 (parse_PgOk s)
 rw[sameP_refl] at h3
 generalize parseP s=r at*
 obtain⟨p,a,e⟩:=r
 dsimp only at h3
 refine sx Tryz.func3 (by kernel_rfl) ?_
 repeat((conv=>whnf);first|refine known true (beq_self_eq_true _) ?_|refine known true rfl ?_|refine⟨_,h1,?_⟩|refine⟨_,h2,?_⟩|refine⟨_,h3,?_⟩|refine⟨_,haw,?_⟩)
 (conv=>whnf)<;>rfl
theorem d_parses (ds0:List D) (h0:DOk TT 6 9 ds0):DCalls Tryz.prog 3 [vOf TT 9 ds0] (boo true):=by
 obtain⟨s,h,hs⟩:=read_bsC h0
 rw[h]
 exact x_lawParses x_awakeP s (by omega)
end Go.Proofs.YtglndfgmlminpaaGreatDoor
