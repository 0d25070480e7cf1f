/- Texts joined by pack.py: XSyZ2 XSyZA -/
import Derived.Test.YtglndfgmlminpaaGreatDoorSx42
import Derived.Test.YtglndfgmlminpaaGreatDoorSx24
import Derived.Test.YtglndfgmlminpaaGreatDoorSx27
set_option maxHeartbeats 2000000
set_option maxRecDepth 100000
namespace Go.Proofs.YtglndfgmlminpaaGreatDoor
section
variable {l:List Tok} {e:Int} {F:Nat}
variable (ho:∀k,0≤offT e (l.drop k))
include ho
theorem must_fin {x:Bs} {k:Nat} {ns:List Nd} (_hk:k≤l.length):
  (isSym x (l.drop k)=true∧k<l.length∧mustT e 5 x (l.drop k)= .ok (l.drop (k+1))∧rTake l e x ⟨k,ns,-1⟩=⟨k+1,ns,-1⟩)∨(isSym x (l.drop k)=false∧mustT e 5 x (l.drop k)= .error (offT e (l.drop k))∧rTake l e x ⟨k,ns,-1⟩=⟨k,ns,offT e (l.drop k)⟩∧0≤offT e (l.drop k)):=by
 unfold mustT
 by_cases hp:isSym x (l.drop k)=true
 ·refine .inl ⟨hp,tk_lt hp,?_,rTake_y (s:=⟨k,ns,-1⟩) hp⟩
  rw[if_pos (show isTk 5 x (l.drop k)=true from hp),List.tail_drop]
 ·have hp:isSym x (l.drop k)=false:=by simpa using hp
  refine .inr ⟨hp,?_,rTake_n (s:=⟨k,ns,-1⟩) hp rfl,ho _⟩
  rw[if_neg (by rw[show isTk 5 x (l.drop k)=false from hp];simp)]
theorem name_fin {k:Nat} {ns:List Nd}:
  (k<l.length∧mustK e 1 (l.drop k)= .ok (pText (l.drop k),l.drop (k+1))∧rName l e ⟨k,ns,-1⟩=(pText (l.drop k),⟨k+1,ns,-1⟩))∨(mustK e 1 (l.drop k)= .error (offT e (l.drop k))∧rName l e ⟨k,ns,-1⟩=([],⟨k,ns,offT e (l.drop k)⟩)∧0≤offT e (l.drop k)):=by
 unfold mustK rName
 dsimp only
 by_cases hp:pKind (l.drop k)=1
 ·have hlt:=kind_lt hp (by decide)
  exact .inl ⟨hlt,by rw[if_pos ⟨hp,drop_ne hlt⟩,List.tail_drop],by rw[if_pos hp]⟩
 ·exact .inr ⟨by rw[if_neg (fun h=>hp h.1)],by rw[if_neg hp,rBad_n rfl],ho _⟩
theorem val_fin {f:Nat} {X:RdF Int} (hX:GoodR l 0 F X (exprP e f)) {kd:Int} {t:Bs} {k:Nat} {ns:List Nd} (h2:k≤l.length) (h3:l.length<k+F):
  Fin l 1 ⟨k,ns,-1⟩ (valueP e f kd t (l.drop k) ns) (rAdd (ndM kd t 0 [(X ⟨k,ns,-1⟩).1]) (rTake l e sSc (X ⟨k,ns,-1⟩).2)):=by
 have hg:=hX.at (ns:=ns) h2 h3
 unfold valueP
 cases hP:exprP e f (l.drop k) ns with
 |error o=>
  rw[hP] at hg
  obtain⟨g1,g2,g3,g4,g5⟩:=hg.err
  dsimp only at g2 g4
  obtain⟨t1,t2,t3,t4⟩:=rTake_f (e:=e) (x:=sSc) (s:=(X ⟨k,ns,-1⟩).2) (by omega) g3
  exact fin_addE g1 (by(try dsimp only);omega) t2 (by rw[t3];dsimp only;omega) (by rw[t4];exact g5)
 |ok q=>
  obtain⟨j,r1,ns1⟩:=q
  rw[hP] at hg
  obtain⟨k1,g1,g2,rfl,g4,g5⟩:=hg.ok
  dsimp only at g1 g4
  rw[g5]
  dsimp only
  rcases must_fin ho (x:=sSc) (ns:=ns1) g2 with⟨_,m2,m3,m4⟩|⟨_,m2,m3,m4⟩
  ·rw[m3,m4]
   exact fin_add (by(try dsimp only);omega) m2 (by(try dsimp only);omega)
  ·rw[m2,m3]
   exact fin_addE m4 (by(try dsimp only);omega) g2 (by(try dsimp only);omega) rfl
theorem asg_fin {f:Nat} {X:RdF Int} (hX:GoodR l 0 F X (exprP e f)) {kd:Int} {t:Bs} {k:Nat} {ns:List Nd} (h2:k≤l.length) (h3:l.length<k+F):
  Fin l 0 ⟨k,ns,-1⟩ (match mustT e 5 sEq1 (l.drop k) with
   | .error o=> .error o
   | .ok r2=>valueP e f kd t r2 ns) (asgR l e X kd t ⟨k,ns,-1⟩):=by
 unfold asgR
 dsimp only
 rcases must_fin ho (x:=sEq1) (ns:=ns) h2 with⟨_,m2,m3,m4⟩|⟨_,m2,m3,m4⟩
 ·rw[m3,m4]
  dsimp only
  rw[if_pos (by omega)]
  have hv:=val_fin ho hX (kd:=kd) (t:=t) (k:=k+1) (ns:=ns) m2 (by omega)
  cases hP:valueP e f kd t (l.drop (k+1)) ns with
  |error o=>
   rw[hP] at hv
   obtain⟨g1,g2,g3,g4,g5⟩:=hv.err
   dsimp only at g2
   simp only at g4
   exact⟨g1,by(try dsimp only);omega,g3,by(try dsimp only);omega,g5⟩
  |ok q=>
   obtain⟨j,r1,ns1⟩:=q
   rw[hP] at hv
   obtain⟨k1,g1,g2,rfl,g4,g5⟩:=hv.ok
   dsimp only at g1 g4
   exact⟨k1,by(try dsimp only);omega,g2,rfl,by(try dsimp only);omega,g5⟩
 ·rw[m2,m3]
  dsimp only
  rw[if_neg (by omega)]
  exact⟨m4,Nat.le_refl _,h2,by(try dsimp only);omega,rfl⟩
omit ho in
theorem Fin.from {α:Type} {c c0:Nat} {k k0:Nat} {ns:List Nd} {out:PRes α} {x:α×Rs} (h:Fin l c ⟨k,ns,-1⟩ out x) (hk:k0≤k) (hc:c+2*k0≤c0+2*k):Fin l c0 ⟨k0,ns,-1⟩ out x:=by
 cases out with
 |error o=>
  obtain⟨g1,g2,g3,g4,g5⟩:=h.err
  dsimp only at g2 g4
  exact⟨g1,by(try dsimp only);omega,g3,by(try dsimp only);omega,g5⟩
 |ok q=>
  obtain⟨j,r1,ns1⟩:=q
  obtain⟨k1,g1,g2,rfl,g4,g5⟩:=h.ok
  dsimp only at g1 g4
  exact⟨k1,by(try dsimp only);omega,g2,rfl,by(try dsimp only);omega,g5⟩
theorem stmtR_good {f:Nat} {X Bl:RdF Int} {B:Pars} (hX:GoodR l 0 (F+1) X (exprP e f)) (hB:GoodR l 1 F Bl B):GoodR l 1 (F+1) (stmtR l e X Bl) (stmtP e f B):=by
 rintro⟨k,ns,fl⟩ h1 h2 h3
 dsimp only at h1 h2 h3⊢
 subst h1
 unfold stmtR stmtP
 dsimp only[rAdv]
 split
 ·rename_i hw
  have hk:=tk_lt hw
  rw[List.tail_drop]
  rcases name_fin ho (k:=k+1) (ns:=ns) with⟨n1,n2,n3⟩|⟨n2,n3,n4⟩
  ·rw[n2,n3]
   dsimp only
   rw[if_pos (by omega)]
   exact(asg_fin ho hX (k:=k+1+1) n1 (by omega)).from (by omega) (by omega)
  ·rw[n2,n3]
   dsimp only
   rw[if_neg (by omega)]
   exact⟨n4,by(try dsimp only);omega,hk,by(try dsimp only);omega,rfl⟩
 split
 ·rename_i hw
  have hk:=tk_lt hw
  rw[List.tail_drop]
  unfold ifR
  dsimp only[rAdv]
  have hg:=hX.at (k:=k+1) (ns:=ns) hk (by omega)
  cases hP:exprP e f (l.drop (k+1)) ns with
  |error o=>
   rw[hP] at hg
   obtain⟨g1,g2,g3,g4,g5⟩:=hg.err
   dsimp only at g2 g4
   rw[if_neg (by omega)]
   exact⟨g1,by(try dsimp only);omega,g3,by(try dsimp only);omega,g5⟩
  |ok q=>
   obtain⟨j,r1,ns1⟩:=q
   rw[hP] at hg
   obtain⟨k1,g1,g2,rfl,g4,g5⟩:=hg.ok
   dsimp only at g1 g4
   rw[g5]
   dsimp only
   rw[if_pos (by omega)]
   have hb:=hB.at (k:=k1) (ns:=ns1) g2 (by omega)
   cases hP2:B (l.drop k1) ns1 with
   |error o=>
    rw[hP2] at hb
    obtain⟨b1,b2,b3,b4,b5⟩:=hb.err
    dsimp only at b2 b4
    rw[if_neg (fun h=>by omega)]
    exact fin_addE b1 (by(try dsimp only);omega) b3 (by(try dsimp only);omega) b5
   |ok q=>
    obtain⟨j2,r2,ns2⟩:=q
    rw[hP2] at hb
    obtain⟨k2,b1,b2,rfl,b4,b5⟩:=hb.ok
    dsimp only at b1 b4
    rw[b5]
    dsimp only
    by_cases he:isWrd wElse (l.drop k2)=true
    ·rw[if_pos he,if_pos ⟨by omega,he⟩,List.tail_drop]
     have hk2:=tk_lt he
     have hc:=hB.at (k:=k2+1) (ns:=ns2) hk2 (by omega)
     cases hP3:B (l.drop (k2+1)) ns2 with
     |error o=>
      rw[hP3] at hc
      obtain⟨c1,c2,c3,c4,c5⟩:=hc.err
      dsimp only at c2 c4
      exact fin_addE c1 (by(try dsimp only);omega) c3 (by(try dsimp only);omega) c5
     |ok q=>
      obtain⟨j3,r3,ns3⟩:=q
      rw[hP3] at hc
      obtain⟨k3,c1,c2,rfl,c4,c5⟩:=hc.ok
      dsimp only at c1 c4
      rw[c5]
      exact(fin_add (s:=⟨k,ns,-1⟩) (by(try dsimp only);omega) c2 (by(try dsimp only);omega))
    ·rw[if_neg he,if_neg (fun h=>he h.2)]
     exact fin_add (by(try dsimp only);omega) b2 (by(try dsimp only);omega)
 split
 ·rename_i hw
  have hk:=tk_lt hw
  rw[List.tail_drop]
  unfold whileR
  dsimp only[rAdv]
  have hg:=hX.at (k:=k+1) (ns:=ns) hk (by omega)
  cases hP:exprP e f (l.drop (k+1)) ns with
  |error o=>
   rw[hP] at hg
   obtain⟨g1,g2,g3,g4,g5⟩:=hg.err
   dsimp only at g2 g4
   rw[if_neg (by omega)]
   exact⟨g1,by(try dsimp only);omega,g3,by(try dsimp only);omega,g5⟩
  |ok q=>
   obtain⟨j,r1,ns1⟩:=q
   rw[hP] at hg
   obtain⟨k1,g1,g2,rfl,g4,g5⟩:=hg.ok
   dsimp only at g1 g4
   rw[g5]
   dsimp only
   rw[if_pos (by omega)]
   have hb:=hB.at (k:=k1) (ns:=ns1) g2 (by omega)
   cases hP2:B (l.drop k1) ns1 with
   |error o=>
    rw[hP2] at hb
    obtain⟨b1,b2,b3,b4,b5⟩:=hb.err
    dsimp only at b2 b4
    exact fin_addE b1 (by(try dsimp only);omega) b3 (by(try dsimp only);omega) b5
   |ok q=>
    obtain⟨j2,r2,ns2⟩:=q
    rw[hP2] at hb
    obtain⟨k2,b1,b2,rfl,b4,b5⟩:=hb.ok
    dsimp only at b1 b4
    rw[b5]
    exact fin_add (by(try dsimp only);omega) b2 (by(try dsimp only);omega)
 by_cases ha:assigns (l.drop k)=true
 ·have hr:isWrd wReturn (l.drop k)=false:=by
   cases hd:l.drop k with
   |nil=>rfl
   |cons t r=>
    rw[hd] at ha
    simp only[assigns,Bool.and_eq_true,decide_eq_true_eq] at ha
    simp[isTk,ha.1]
  rw[if_pos ha,if_neg (by rw[hr];simp),if_pos ha]
  have hk1:k+1<l.length∧isSym sEq1 (l.drop (k+1))=true:=by
   rcases Nat.lt_or_ge k l.length with hk|hk
   ·rw[dropE1 hk] at ha
    simp only[assigns,Bool.and_eq_true] at ha
    exact⟨tk_lt ha.2,ha.2⟩
   ·rw[List.drop_eq_nil_of_le hk] at ha;cases ha
  rw[List.tail_drop,List.tail_drop]
  have hm:mustT e 5 sEq1 (l.drop (k+1))= .ok (l.drop (k+1+1)):=by
   unfold mustT
   rw[if_pos (show isTk 5 sEq1 (l.drop (k+1))=true from hk1.2),List.tail_drop]
  have:=asg_fin ho hX (kd:=14) (t:=pText (l.drop k)) (k:=k+1) (ns:=ns) (by omega) (by omega)
  rw[hm] at this
  exact this.from (by omega) (by omega)
 rw[if_neg ha,if_neg ha]
 split
 ·rename_i hw
  have hk:=tk_lt hw
  rw[List.tail_drop]
  exact(val_fin ho hX (k:=k+1) hk (by omega)).from (by omega) (by omega)
 ·exact val_fin ho hX h2 h3
theorem stmts_fin {S:RdF Int} {P:Pars} (hS:GoodR l 1 F S P) {s0:Rs}:∀(f:Nat) (js:List Int) (s:Rs),s.fl= -1→s0.k<s.k→s.k≤l.length→l.length<s.k+F→l.length<s.k+f→s.ns.length+s0.k≤s0.ns.length+s.k→
  Fin l 1 s0 (stmtsF e P f js (l.drop s.k) s.ns) (rAdd (ndM 19 [] 0 (stmtsR l S f js s).1) (rTake l e sRC (stmtsR l S f js s).2))
 |0,js,s,h1,h2,h3,h4,h5,h6=>by have _h:=@ho;omega
 |f+1,js,s,h1,h2,h3,h4,h5,h6=>by
  unfold stmtsF stmtsR
  by_cases hr:isSym sRC (l.drop s.k)=true
  ·rw[if_pos hr,if_neg (fun h=>by rw[hr] at h;exact absurd h.2 (by decide)),rTake_y hr,List.tail_drop]
   have:=tk_lt hr
   dsimp only[rAdv]
   rw[h1]
   exact fin_add (by omega) this (by omega)
  ·have hr0:isSym sRC (l.drop s.k)=false:=by simpa using hr
   rw[if_neg hr,if_pos ⟨by omega,hr0⟩]
   have hg:=hS s h1 h3 h4
   cases hP:P (l.drop s.k) s.ns with
   |error o=>
    rw[hP] at hg
    obtain⟨g1,g2,g3,g4,g5⟩:=hg.err
    rw[stmtsR_f _ _ (by omega)]
    obtain⟨t1,t2,t3,t4⟩:=rTake_f (e:=e) (x:=sRC) (s:=(S s).2) (by omega) g3
    exact fin_addE g1 (by(try dsimp only);omega) t2 (by rw[t3];dsimp only;omega) (by rw[t4];exact g5)
   |ok q=>
    obtain⟨j,r1,ns1⟩:=q
    rw[hP] at hg
    obtain⟨k1,g1,g2,rfl,g4,g5⟩:=hg.ok
    rw[g5]
    exact stmts_fin hS f _ ⟨k1,ns1,-1⟩ rfl (by(try dsimp only);omega) g2 (by(try dsimp only);omega) (by(try dsimp only);omega) (by(try dsimp only);omega)
theorem blockG_good {S:RdF Int} {P:Pars} (hS:GoodR l 1 F S P):GoodR l 1 (F+1) (blockG l e S) (fun r ns=>match mustT e 5 sLC r with
  | .error o=> .error o
  | .ok r1=>stmtsF e P (r1.length+1) [] r1 ns):=by
 rintro⟨k,ns,fl⟩ h1 h2 h3
 dsimp only at h1 h2 h3⊢
 subst h1
 unfold blockG
 dsimp only
 rcases must_fin ho (x:=sLC) (ns:=ns) h2 with⟨_,m2,m3,m4⟩|⟨_,m2,m3,m4⟩
 ·rw[m3,m4]
  dsimp only
  rw[List.length_drop,show l.length - (k+1)+1=l.length+1 - (k+1) by omega]
  exact stmts_fin ho hS (s0:=⟨k,ns,-1⟩) _ [] ⟨k+1,ns,-1⟩ rfl (by(try dsimp only);omega) m2 (by(try dsimp only);omega) (by(try dsimp only);omega) (by(try dsimp only);omega)
 ·rw[m2,m3]
  dsimp only
  rw[stmtsR_f _ _ m4]
  obtain⟨t1,t2,t3,t4⟩:=rTake_f (e:=e) (x:=sRC) (s:=⟨k,ns,offT e (l.drop k)⟩) m4 h2
  exact fin_addE m4 (by dsimp only at t1⊢;omega) t2 (by rw[t3];dsimp only at t1⊢;omega) (by rw[t4])
theorem blockR_good:∀f,GoodR l 1 f (blockR l e f) (blockP e f)
 |0=>fun s _ h2 h3=>by omega
 |f+1=>by
  have hS:=stmtR_good ho (F:=f) (f:=f+1) (X:=exprR l e (f+1)) (Bl:=blockR l e f) (B:=blockP e f) (exprR_good ho (f+1)) (blockR_good f)
  intro s h1 h2 h3
  have:=blockG_good ho hS s h1 h2 (by omega)
  exact this
theorem par_fin {s0:Rs}:∀(f:Nat) (ps:List Bs) (k:Nat) (ns:List Nd),s0.k≤k→k≤l.length→l.length≤k+f→(match parF e f ps (l.drop k) with
  | .error o=>0≤o∧∃qs k1,parR l e (f+1) ps ⟨k,ns,-1⟩=(qs,⟨k1,ns,o⟩)∧k≤k1∧k1≤l.length
  | .ok (qs,r1)=>∃k1,k<k1∧k1≤l.length∧r1=l.drop k1∧parR l e (f+1) ps ⟨k,ns,-1⟩=(qs,⟨k1,ns,-1⟩))
 |0,ps,k,ns,h1,h2,h3=>by
  have hn:l.drop k=[]:=List.drop_eq_nil_of_le (by omega)
  unfold parF parR
  rw[if_pos (by(try dsimp only);omega)]
  dsimp only
  rcases name_fin ho (k:=k) (ns:=ns) with⟨n1,n2,n3⟩|⟨n2,n3,n4⟩
  ·omega
  ·rw[n3]
   dsimp only
   rw[if_neg (fun h=>by omega),if_neg (by omega)]
   exact⟨n4,_,k,rfl,Nat.le_refl _,h2⟩
 |f+1,ps,k,ns,h1,h2,h3=>by
  unfold parF parR
  rw[if_pos (by(try dsimp only);omega)]
  dsimp only
  rcases name_fin ho (k:=k) (ns:=ns) with⟨n1,n2,n3⟩|⟨n2,n3,n4⟩
  rotate_left
  ·rw[n2,n3]
   dsimp only
   rw[if_neg (fun h=>by omega),if_neg (by omega),parR_f _ _ n4]
   exact⟨n4,_,k,rfl,Nat.le_refl _,h2⟩
  rw[n2,n3]
  dsimp only
  by_cases hf:isSym sRP (l.drop (k+1))=true
  ·rw[if_pos hf,if_pos (show(-1:Int)<0∧isSym sRP (l.drop (k+1))=true from⟨by decide,hf⟩),List.tail_drop]
   have:=tk_lt hf
   exact⟨k+1+1,by omega,this,rfl,rfl⟩
  rw[if_neg hf,if_neg (show¬((-1:Int)<0∧isSym sRP (l.drop (k+1))=true) from fun h=>hf h.2),if_pos (show(-1:Int)<0 by decide)]
  by_cases hc:isSym sCm (l.drop (k+1))=true
  ·rw[if_pos hc,rTake_y (s:=⟨k+1,ns,-1⟩) hc,List.tail_drop]
   have hlt:=tk_lt hc
   have:=par_fin (s0:=s0) f (ps++[pText (l.drop k)]) (k+1+1) ns (by omega) hlt (by omega)
   dsimp only[rAdv]
   split at this
   ·rename_i o hp
    obtain⟨g1,qs,k1,g2,g3,g4⟩:=this
    exact⟨g1,qs,k1,g2,by omega,g4⟩
   ·rename_i qs r1 hp
    obtain⟨k1,g1,g2,g3,g4⟩:=this
    exact⟨k1,by omega,g2,g3,g4⟩
  ·have hc:isSym sCm (l.drop (k+1))=false:=by simpa using hc
   rw[if_neg (by rw[hc];simp),rTake_n (s:=⟨k+1,ns,-1⟩) hc rfl,parR_f _ _ (ho _)]
   exact⟨ho _,_,k+1,rfl,by omega,n1⟩
theorem parG_fin {k:Nat} {ns:List Nd} (h2:k≤l.length):match parP e (l.drop k) with
  | .error o=>0≤o∧∃qs k1,parG l e ⟨k,ns,-1⟩=(qs,⟨k1,ns,o⟩)∧k≤k1∧k1≤l.length
  | .ok (qs,r1)=>∃k1,k<k1∧k1≤l.length∧r1=l.drop k1∧parG l e ⟨k,ns,-1⟩=(qs,⟨k1,ns,-1⟩):=by
 unfold parP parG
 by_cases hf:isSym sRP (l.drop k)=true
 ·rw[if_pos hf,if_pos ⟨by(try dsimp only);omega,hf⟩,List.tail_drop]
  exact⟨k+1,by omega,tk_lt hf,rfl,rfl⟩
 ·rw[if_neg hf,if_neg (fun h=>hf h.2),List.length_drop]
  dsimp only
  rw[show l.length+1 - k=(l.length - k)+1 by omega]
  exact par_fin ho (s0:=⟨k,ns,-1⟩) _ [] k ns (Nat.le_refl _) h2 (by omega)
omit ho in
theorem parG_f {s:Rs} (h:0≤s.fl):parG l e s=([],s):=by
 unfold parG;rw[if_neg (fun h1=>by omega),parR_f _ _ h]
theorem funcR_good {f:Nat} {B:RdF Int} (hB:GoodR l 1 f B (blockP e f)) {k:Nat} {ns:List Nd} (h2:k≤l.length) (h3:l.length<k+f):Fin l 0 ⟨k,ns,-1⟩ (funcP e f (l.drop k) ns) (funcR l e B ⟨k,ns,-1⟩):=by
 unfold funcR funcP mustT
 dsimp only[rAdv]
 by_cases hw:isWrd wFunc (l.drop k)=true
 rotate_left
 ·rw[if_neg hw,if_neg (show¬isTk 2 wFunc (l.drop k)=true from hw),rBad_n rfl]
  exact⟨ho _,Nat.le_refl _,h2,by(try dsimp only);omega,rfl⟩
 have hk:=tk_lt hw
 rw[if_pos hw,if_pos (show isTk 2 wFunc (l.drop k)=true from hw),List.tail_drop]
 dsimp only
 rcases name_fin ho (k:=k+1) (ns:=ns) with⟨n1,n2,n3⟩|⟨n2,n3,n4⟩
 rotate_left
 ·rw[n2,n3]
  dsimp only
  obtain⟨t1,t2,t3,t4⟩:=rTake_f (e:=e) (x:=sLP) (s:=⟨k+1,ns,offT e (l.drop (k+1))⟩) n4 hk
  rw[parG_f (by rw[t4];exact n4)]
  rw[if_neg (by rw[t4];dsimp only;omega)]
  exact⟨n4,by dsimp only at t1⊢;omega,t2,by rw[t3];dsimp only at t1⊢;omega,by rw[t4]⟩
 rw[n2,n3]
 dsimp only
 have hm:=must_fin ho (x:=sLP) (k:=k+1+1) (ns:=ns) n1
 unfold mustT at hm
 rcases hm with⟨_,m2,m3,m4⟩|⟨_,m2,m3,m4⟩
 rotate_left
 ·rw[m2,m3]
  dsimp only
  rw[parG_f m4,if_neg (by(try dsimp only);omega)]
  exact⟨m4,by(try dsimp only);omega,n1,by(try dsimp only);omega,rfl⟩
 rw[m3,m4]
 dsimp only
 have hp:=parG_fin ho (k:=k+1+1+1) (ns:=ns) m2
 split at hp
 ·rename_i o hq
  obtain⟨g1,qs,k1,g2,g3,g4⟩:=hp
  rw[hq,g2]
  dsimp only
  rw[if_neg (by omega)]
  exact⟨g1,by(try dsimp only);omega,g4,by(try dsimp only);omega,rfl⟩
 ·rename_i qs r1 hq
  obtain⟨k1,g1,g2,rfl,g4⟩:=hp
  rw[hq,g4]
  dsimp only
  rw[if_pos (by omega)]
  have hb:=hB.at (k:=k1) (ns:=ns) g2 (by omega)
  cases hP:blockP e f (l.drop k1) ns with
  |error o=>
   rw[hP] at hb
   obtain⟨b1,b2,b3,b4,b5⟩:=hb.err
   dsimp only at b2 b4
   exact⟨b1,by(try dsimp only);omega,b3,by(try dsimp only);omega,b5⟩
  |ok q=>
   obtain⟨j,r5,ns5⟩:=q
   rw[hP] at hb
   obtain⟨k2,b1,b2,rfl,b4,b5⟩:=hb.ok
   dsimp only at b1 b4
   rw[b5]
   exact⟨k2,by(try dsimp only);omega,b2,rfl,by(try dsimp only);omega,rfl⟩
omit ho in
theorem progR_f {B:RdF Int} (g:Nat) (fs:List Fc) {s:Rs} (h:0≤s.fl):progR l e B g fs s=(fs,s):=by
 cases g with
 |zero=>rfl
 |succ g=>unfold progR;rw[if_neg (fun h1=>by omega)]
theorem prog_fin {f:Nat} {B:RdF Int} (hB:GoodR l 1 f B (blockP e f)):∀(g:Nat) (fs:List Fc) (k:Nat) (ns:List Nd),k≤l.length→l.length<k+f→l.length≤k+g→(match progF e f g fs (l.drop k) ns with
  | .error o=>0≤o∧(progR l e B g fs ⟨k,ns,-1⟩).2.fl=o
  | .ok p=>progR l e B g fs ⟨k,ns,-1⟩=(p.funcs,⟨l.length,p.nodes,-1⟩))
 |0,fs,k,ns,h1,h2,h3=>by
  have:k=l.length:=by omega
  subst this
  rfl
 |g+1,fs,k,ns,h1,h2,h3=>by
  unfold progF progR
  rcases Nat.lt_or_ge k l.length with hk|hk
  rotate_left
  ·have:k=l.length:=by omega
   subst this
   rw[if_pos (List.drop_eq_nil_of_le (Nat.le_refl _)),if_neg (fun h=>by dsimp only at h;omega)]
  rw[if_neg (drop_ne hk),if_pos ⟨by(try dsimp only);omega,hk⟩]
  have hg:=funcR_good ho hB (ns:=ns) h1 h2
  cases hP:funcP e f (l.drop k) ns with
  |error o=>
   rw[hP] at hg
   obtain⟨b1,b2,b3,b4,b5⟩:=hg.err
   dsimp only
   rw[progR_f _ _ (by omega)]
   exact⟨b1,b5⟩
  |ok q=>
   obtain⟨x,r1,ns1⟩:=q
   rw[hP] at hg
   obtain⟨k1,b1,b2,rfl,b4,b5⟩:=hg.ok
   dsimp only at b1 b4
   rw[b5]
   exact prog_fin hB g _ k1 ns1 b2 (by omega) (by omega)
end
end Go.Proofs.YtglndfgmlminpaaGreatDoor
namespace Go.Proofs.YtglndfgmlminpaaGreatDoor
open Go.RowKit
def radM:List (Nat×Bool):=[(60,false),(28,false),(104,false),(105,false),(63,false),
 (59,false),(62,false),(61,false),(107,false),(147,false),
 (176,false),(202,false),(219,false),(238,false),(250,false),(256,false),
 (260,false),(272,false),(273,false),(270,false),(271,false),(266,false),
 (64,false),(144,false),(145,false),(146,false),(106,false),(29,false)]
theorem rcx {f:FuncId} {fn:Func} (hf:Tryz.prog.funcs[f]?=some fn) (hn:(fn.name== "runtime.NumGoroutine")=false) {args:List V} {m:List Bk} {res:V} {m':List Bk} (h16:(decide (args.length≤fn.ntmps)&&decide (m.length≤16))=true)
  (h:BodyM (fun vs=>vs.flatMap V.bn) Tryz.prog (TM radM) fn args m res m'):MCalls Tryz.prog f args m res m':=
 mcalls_of (tokM radM) mixed hf hn h16 h
abbrev rBox (l:List Tok) (e:Int) (s:Rs) (n1:Nat):Bk:= .box [.sl false 4 (l.map tokD),int (s.k:Nat),int e,.ow n1 0,int s.fl]
abbrev rRow (ns:List Nd):Bk:= .row 0 58 5 false (ns.map ndD)
abbrev rM (l:List Tok) (e:Int) (s:Rs):List Bk:=[rBox l e s 1,rRow s.ns]
theorem isTk_at {l:List Tok} {k:Nat} (K:Int) (x:Bs) (h:k<l.length):isTk K x (l.drop k)=(decide (l[k].kind=K)&&(l[k].text==x)):=by rw[List.drop_eq_getElem_cons h];rfl
theorem isTk_pk {K:Int} (hK:K≠0) (x:Bs) (r:List Tok):isTk K x r=(decide (pKind r=K)&&(pText r==x)):=by
 cases r with
 |nil=>simp[isTk,pKind,hK.symm]
 |cons t r=>rfl
theorem pKind_at {l:List Tok} {k:Nat} (h:k<l.length):pKind (l.drop k)=l[k].kind:=by rw[List.drop_eq_getElem_cons h];rfl
theorem pText_at2 {l:List Tok} {k:Nat} (h:k<l.length):pText (l.drop k)=l[k].text:=by rw[List.drop_eq_getElem_cons h];rfl
theorem offT_at2 {l:List Tok} {k:Nat} {e:Int} (h:k<l.length):offT e (l.drop k)=l[k].at_:=by rw[List.drop_eq_getElem_cons h];rfl
section
variable {l:List Tok} {e:Int} {s:Rs}
theorem rdq_good:MCalls Tryz.prog 28 [.bx 0 0] (rM l e s) (boo (decide (s.fl<0))) (rM l e s):=by
 refine rcx Tryz.func28 (by kernel_rfl) (by kernel_rfl) ?_
 conv=>whnf
 exact⟨rfl,rfl,rfl⟩
theorem rdq_kind (_hl:l.length≤1000000):MCalls Tryz.prog 104 [.bx 0 0] (rM l e s) (int (pKind (l.drop s.k))) (rM l e s):=by
 have hll:(l.map tokD).length=l.length:=List.length_map _
 refine rcx Tryz.func104 (by kernel_rfl) (by kernel_rfl) ?_
 conv=>whnf
 refine⟨none,by kernel_rfl,?_⟩
 rcases Nat.lt_or_ge s.k l.length with h|h
 rotate_left
 ·rw[List.drop_eq_nil_of_le h]
  conv=>whnf
  refine known true (by simp;omega) ?_
  conv=>whnf
  exact⟨rfl,rfl,rfl⟩
 rw[pKind_at h]
 conv=>whnf
 refine known false (by simp;omega) ?_
 conv=>whnf
 refine⟨none,by kernel_rfl,?_⟩
 conv=>whnf
 refine⟨by omega,_,get_map tokD h,?_⟩
 conv=>whnf
 exact⟨rfl,rfl,rfl⟩
theorem rdq_text (_hl:l.length≤1000000):MCalls Tryz.prog 105 [.bx 0 0] (rM l e s) (bstr (pText (l.drop s.k))) (rM l e s):=by
 have hll:(l.map tokD).length=l.length:=List.length_map _
 refine rcx Tryz.func105 (by kernel_rfl) (by kernel_rfl) ?_
 conv=>whnf
 refine⟨none,by kernel_rfl,?_⟩
 rcases Nat.lt_or_ge s.k l.length with h|h
 rotate_left
 ·rw[List.drop_eq_nil_of_le h]
  conv=>whnf
  refine known true (by simp;omega) ?_
  conv=>whnf
  exact⟨rfl,rfl,rfl⟩
 rw[pText_at2 h]
 conv=>whnf
 refine known false (by simp;omega) ?_
 conv=>whnf
 refine⟨none,by kernel_rfl,?_⟩
 conv=>whnf
 refine⟨by omega,_,get_map tokD h,?_⟩
 conv=>whnf
 exact⟨rfl,rfl,rfl⟩
theorem rdq_sym (x:Bs) (hl:l.length≤1000000):MCalls Tryz.prog 63 [.bx 0 0,bstr x] (rM l e s) (boo (isSym x (l.drop s.k))) (rM l e s):=by
 rw[show isSym x (l.drop s.k)=(decide (pKind (l.drop s.k)=5)&&(pText (l.drop s.k)==x)) from isTk_pk (by decide) x _]
 refine rcx Tryz.func63 (by kernel_rfl) (by kernel_rfl) ?_
 conv=>whnf
 refine mcall (T:=TM radM) (φ:=[]) (gf:=false) (rdq_kind hl) ?_
 conv=>whnf
 rintro(_|_) h1
 ·rw[show decide (pKind (l.drop s.k)=5)=false from by simpa using h1,Bool.false_and]
  repeat((conv=>whnf);first|refine known true rfl ?_|refine known false rfl ?_)
  conv=>whnf
  exact⟨rfl,rfl,rfl⟩
 rw[show decide (pKind (l.drop s.k)=5)=true from by simpa using h1,Bool.true_and]
 conv=>whnf
 refine mcall (T:=TM radM) (φ:=[]) (gf:=false) (rdq_text hl) ?_
 rw[←sEq_mk]
 conv=>whnf
 exact⟨rfl,rfl,rfl⟩
theorem rdq_word (x:Bs) (hl:l.length≤1000000):MCalls Tryz.prog 59 [.bx 0 0,bstr x] (rM l e s) (boo (isWrd x (l.drop s.k))) (rM l e s):=by
 rw[show isWrd x (l.drop s.k)=(decide (pKind (l.drop s.k)=2)&&(pText (l.drop s.k)==x)) from isTk_pk (by decide) x _]
 refine rcx Tryz.func59 (by kernel_rfl) (by kernel_rfl) ?_
 conv=>whnf
 refine mcall (T:=TM radM) (φ:=[]) (gf:=false) (rdq_kind hl) ?_
 conv=>whnf
 rintro(_|_) h1
 ·rw[show decide (pKind (l.drop s.k)=2)=false from by simpa using h1,Bool.false_and]
  repeat((conv=>whnf);first|refine known true rfl ?_|refine known false rfl ?_)
  conv=>whnf
  exact⟨rfl,rfl,rfl⟩
 rw[show decide (pKind (l.drop s.k)=2)=true from by simpa using h1,Bool.true_and]
 conv=>whnf
 refine mcall (T:=TM radM) (φ:=[]) (gf:=false) (rdq_text hl) ?_
 rw[←sEq_mk]
 conv=>whnf
 exact⟨rfl,rfl,rfl⟩
theorem rdq_bad (_hl:l.length≤1000000):MCalls Tryz.prog 60 [.bx 0 0] (rM l e s) (.tu []) (rM l e (rBad l e s)):=by
 have hll:(l.map tokD).length=l.length:=List.length_map _
 refine rcx Tryz.func60 (by kernel_rfl) (by kernel_rfl) ?_
 conv=>whnf
 rintro(_|_) h1
 rotate_left
 ·have h1:0≤s.fl:=by simpa using h1
  rw[show rBad l e s=s by unfold rBad;rw[if_pos h1]]
  conv=>whnf
  exact⟨rfl,rfl,rfl⟩
 have h1:s.fl<0:=by simpa using h1
 rw[show rBad l e s=⟨s.k,s.ns,offT e (l.drop s.k)⟩ by unfold rBad;rw[if_neg (by omega)]]
 conv=>whnf
 refine⟨none,by kernel_rfl,?_⟩
 rcases Nat.lt_or_ge s.k l.length with h|h
 rotate_left
 ·rw[show offT e (l.drop s.k)=e by rw[List.drop_eq_nil_of_le h];rfl]
  conv=>whnf
  refine known false (by simp;omega) ?_
  conv=>whnf
  exact⟨rfl,rfl,rfl⟩
 rw[offT_at2 h]
 conv=>whnf
 refine known true (by simp;omega) ?_
 conv=>whnf
 refine⟨none,by kernel_rfl,?_⟩
 conv=>whnf
 refine⟨by omega,_,get_map tokD h,?_⟩
 conv=>whnf
 exact⟨rfl,rfl,rfl⟩
theorem rdq_take (x:Bs) (hl:l.length≤1000000) (hk:s.k≤l.length):MCalls Tryz.prog 62 [.bx 0 0,bstr x] (rM l e s) (.tu []) (rM l e (rTake l e x s)):=by
 refine rcx Tryz.func62 (by kernel_rfl) (by kernel_rfl) ?_
 conv=>whnf
 refine mcall (T:=TM radM) (φ:=[]) (gf:=false) (rdq_sym x hl) ?_
 conv=>whnf
 rintro(_|_) h1
 rotate_left
 ·have h1:isSym x (l.drop s.k)=false:=by simpa using h1
  rw[show rTake l e x s=rBad l e s by unfold rTake;rw[if_neg (by rw[h1];simp)]]
  conv=>whnf
  refine mcall (T:=TM radM) (φ:=[]) (gf:=false) (rdq_bad hl) ?_
  conv=>whnf
  exact⟨rfl,rfl,rfl⟩
 have h1:isSym x (l.drop s.k)=true:=by simpa using h1
 have hw:IntKind.i64.wrap (((s.k:Nat):Int)+1)=((s.k+1:Nat):Int):=wrap_succ (by omega)
 rw[rTake_y h1]
 conv=>whnf
 rw[hw]
 conv=>whnf
 exact⟨rfl,rfl,rfl⟩
theorem rdq_name (hl:l.length≤1000000) (_hk:s.k≤l.length):MCalls Tryz.prog 61 [.bx 0 0] (rM l e s) (bstr (rName l e s).1) (rM l e (rName l e s).2):=by
 refine rcx Tryz.func61 (by kernel_rfl) (by kernel_rfl) ?_
 conv=>whnf
 refine mcall (T:=TM radM) (φ:=[]) (gf:=false) (rdq_kind hl) ?_
 conv=>whnf
 rintro(_|_) h1
 rotate_left
 ·have h1:pKind (l.drop s.k)≠1:=by simpa using h1
  rw[show rName l e s=([],rBad l e s) by unfold rName;rw[if_neg h1]]
  conv=>whnf
  refine mcall (T:=TM radM) (φ:=[]) (gf:=false) (rdq_bad hl) ?_
  conv=>whnf
  exact⟨rfl,rfl,rfl⟩
 have h1:pKind (l.drop s.k)=1:=by simpa using h1
 have hlt:=kind_lt h1 (by decide)
 have hw:IntKind.i64.wrap (((s.k:Nat):Int)+1)=((s.k+1:Nat):Int):=wrap_succ (by omega)
 have hw2:IntKind.i64.wrap (((s.k+1:Nat):Int) - 1)=(s.k:Int):=by rw[wrap_in (by omega)];omega
 rw[show rName l e s=(pText (l.drop s.k),rAdv s) by unfold rName;rw[if_pos h1],pText_at2 hlt]
 conv=>whnf
 rw[hw]
 conv=>whnf
 refine⟨none,by kernel_rfl,?_⟩
 conv=>whnf
 rw[hw2]
 conv=>whnf
 refine⟨by omega,_,get_map tokD hlt,?_⟩
 conv=>whnf
 exact⟨rfl,rfl,rfl⟩
abbrev rndV (n:Nd):V:= .ag [int n.kind,bstr n.text,int n.val,.sl false 1 (n.keys.map strD),.sl false 1 (n.kids.map intD)]
theorem rdq_add (n:Nd) (hn:s.ns.length≤3000000):
  MCalls Tryz.prog 107 [.bx 0 0,rndV n] (rM l e s) (int (rAdd n s).1) (rM l e (rAdd n s).2):=by
 have e1:rM l e (rAdd n s).2=[rBox l e (rAdd n s).2 1,.row 0 58 5 false (s.ns.map ndD++[ndD n])]:=by simp only[rM,rRow,rAdd,List.map_append,List.map_cons,List.map_nil]
 have e2:int (rAdd n s).1=int (IntKind.i64.wrap ((((s.ns.map ndD++[ndD n]).length:Nat):Int) - 1)):=by
  rw[List.length_append,List.length_map,wrap_in (by simp;omega)];simp[rAdd]
 refine rcx Tryz.func107 (by kernel_rfl) (by kernel_rfl) ?_
 conv=>whnf
 refine⟨none,by kernel_rfl,?_⟩
 conv=>whnf
 refine⟨by rw[List.length_map];show(s.ns.length+1)*80≤_;omega,?_⟩
 conv=>whnf
 exact⟨rfl,by rw[e1];rfl,by rw[e2];rfl⟩
end
end Go.Proofs.YtglndfgmlminpaaGreatDoor
