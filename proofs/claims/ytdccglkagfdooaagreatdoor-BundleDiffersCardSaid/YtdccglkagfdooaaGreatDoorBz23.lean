/- Texts joined by pack.py: XSyPA XSyPB XSy2 -/
import Derived.Test.YtdccglkagfdooaaGreatDoorBz22
namespace Go.Proofs.YtdccglkagfdooaaGreatDoor
def strip (t:Tok):Tok:={t with at_:=0}
def Sim (a b:List Tok):Prop:=a.map strip=b.map strip
theorem Sim.refl (a:List Tok):Sim a a:=rfl
theorem Sim.tail {a b:List Tok} (h:Sim a b):Sim a.tail b.tail:=by
 have:=congrArg List.tail h
 simpa[Sim] using this
theorem Sim.length {a b:List Tok} (h:Sim a b):a.length=b.length:=by
 have:=congrArg List.length h
 simpa using this
theorem Sim.nil {a b:List Tok} (h:Sim a b):a=[]↔b=[]:=by
 rw[←List.length_eq_zero_iff,←List.length_eq_zero_iff,h.length]
theorem Sim.uncons {t u:Tok} {a b:List Tok} (h:Sim (t::a) (u::b)):t.kind=u.kind∧t.text=u.text∧t.val=u.val∧Sim a b:=by
 simp only[Sim,List.map_cons,List.cons.injEq,strip,Tok.mk.injEq] at h
 exact⟨h.1.1,h.1.2.1,h.1.2.2.1,h.2⟩
theorem Sim.isTk {a b:List Tok} (h:Sim a b) (k:Int) (s:Bs):isTk k s a=Go.Proofs.YtdccglkagfdooaaGreatDoor.isTk k s b:=by
 cases a with
 |nil=>obtain rfl:=h.nil.1 rfl;rfl
 |cons t a=>
  cases b with
  |nil=>have:=h.nil.2 rfl;cases this
  |cons u b=>
   obtain⟨h1,h2,_⟩:=h.uncons
   simp only[Go.Proofs.YtdccglkagfdooaaGreatDoor.isTk,h1,h2]
theorem Sim.pKind {a b:List Tok} (h:Sim a b):pKind a=Go.Proofs.YtdccglkagfdooaaGreatDoor.pKind b:=by
 cases a with
 |nil=>obtain rfl:=h.nil.1 rfl;rfl
 |cons t a=>
  cases b with
  |nil=>have:=h.nil.2 rfl;cases this
  |cons u b=>exact h.uncons.1
theorem Sim.pText {a b:List Tok} (h:Sim a b):pText a=Go.Proofs.YtdccglkagfdooaaGreatDoor.pText b:=by
 cases a with
 |nil=>obtain rfl:=h.nil.1 rfl;rfl
 |cons t a=>
  cases b with
  |nil=>have:=h.nil.2 rfl;cases this
  |cons u b=>exact h.uncons.2.1
theorem Sim.assigns {a b:List Tok} (h:Sim a b):assigns a=Go.Proofs.YtdccglkagfdooaaGreatDoor.assigns b:=by
 cases a with
 |nil=>obtain rfl:=h.nil.1 rfl;rfl
 |cons t a=>
  cases b with
  |nil=>have:=h.nil.2 rfl;cases this
  |cons u b=>
   obtain⟨h1,_,_,h2⟩:=h.uncons
   simp only[Go.Proofs.YtdccglkagfdooaaGreatDoor.assigns,h1,h2.isTk]
def SimR {α:Type} (x y:PRes α):Prop:=(∃o o',x= .error o∧y= .error o')∨∃a r r' ns,x= .ok (a,r,ns)∧y= .ok (a,r',ns)∧Sim r r'
def SimP (p q:Pars):Prop:=∀r r' ns,Sim r r'→SimR (p r ns) (q r' ns)
theorem SimR.er {α:Type} (o o':Int):SimR (α:=α) (.error o) (.error o'):= .inl ⟨o,o',rfl,rfl⟩
theorem SimR.ok {α:Type} (a:α) {r r':List Tok} (h:Sim r r') (ns:List Nd):SimR (.ok (a,r,ns)) (.ok (a,r',ns)):= .inr ⟨a,r,r',ns,rfl,rfl,h⟩
theorem SimR.add {n:Nd} {r r':List Tok} (h:Sim r r') (ns:List Nd):SimR (addN n r ns) (addN n r' ns):= .ok _ h _
theorem SimR.ite {α:Type} {c d:Prop} [Decidable c] [Decidable d] (h:c↔d) {x y x' y':PRes α} (h1:SimR x x') (h2:SimR y y'):SimR (if c then x else y) (if d then x' else y'):=by
 by_cases hc:c
 ·rw[if_pos hc,if_pos (h.1 hc)];exact h1
 ·rw[if_neg hc,if_neg (fun hd=>hc (h.2 hd))];exact h2
theorem mustT_sim {e e' k:Int} {s:Bs} {r r':List Tok} (h:Sim r r'):(∃o o',mustT e k s r= .error o∧mustT e' k s r'= .error o')∨∃r1 r1',mustT e k s r= .ok r1∧mustT e' k s r'= .ok r1'∧Sim r1 r1':=by
 unfold mustT
 rw[h.isTk]
 split
 ·exact .inr ⟨_,_,rfl,rfl,h.tail⟩
 ·exact .inl ⟨_,_,rfl,rfl⟩
theorem mustK_sim {e e' k:Int} {r r':List Tok} (h:Sim r r'):(∃o o',mustK e k r= .error o∧mustK e' k r'= .error o')∨∃s r1 r1',mustK e k r= .ok (s,r1)∧mustK e' k r'= .ok (s,r1')∧Sim r1 r1':=by
 unfold mustK
 rw[h.pKind,h.pText]
 by_cases hr:r=[]
 ·have hr':=h.nil.1 hr
  rw[if_neg (fun hh=>hh.2 hr),if_neg (fun hh=>hh.2 hr')]
  exact .inl ⟨_,_,rfl,rfl⟩
 ·have hr':r'≠[]:=fun hh=>hr (h.nil.2 hh)
  by_cases hk:pKind r'=k
  ·rw[if_pos ⟨hk,hr⟩,if_pos ⟨hk,hr'⟩]
   exact .inr ⟨_,_,_,rfl,rfl,h.tail⟩
  ·rw[if_neg (fun hh=>hk hh.1),if_neg (fun hh=>hk hh.1)]
   exact .inl ⟨_,_,rfl,rfl⟩
section
variable {e e':Int} {E E':Pars} (hE:SimP E E')
include hE
theorem listF_sim {fin:Bs}:∀(f:Nat) (l:List Int) (r r':List Tok) (ns:List Nd),Sim r r'→SimR (listF e fin E f l r ns) (listF e' fin E' f l r' ns)
 |0,l,r,r',ns,h=> .er _ _
 |f+1,l,r,r',ns,h=>by
  simp only[listF]
  rcases hE r r' ns h with⟨o,o',h1,h2⟩|⟨a,r1,r1',ns1,h1,h2,h3⟩
  ·rw[h1,h2];exact .er _ _
  ·rw[h1,h2]
   simp only[h3.isTk]
   split
   ·exact .ok _ h3.tail _
   ·split
    ·exact listF_sim f _ _ _ _ h3.tail
    ·exact .er _ _
theorem listP_sim {fin:Bs} {r r':List Tok} (h:Sim r r') (ns:List Nd):SimR (listP e fin E r ns) (listP e' fin E' r' ns):=by
 unfold listP
 rw[show isSym fin r=isSym fin r' from h.isTk 5 fin,h.length]
 split
 ·exact .ok _ h.tail _
 ·exact listF_sim hE _ _ _ _ _ h
theorem keyF_sim:∀(f:Nat) (ks:List Bs) (l:List Int) (r r':List Tok) (ns:List Nd),Sim r r'→SimR (keyF e E f ks l r ns) (keyF e' E' f ks l r' ns)
 |0,ks,l,r,r',ns,h=> .er _ _
 |f+1,ks,l,r,r',ns,h=>by
  simp only[keyF]
  refine SimR.ite (by rw[h.pKind,h.pText,ne_eq,h.nil]) ?_ (.er _ _)
  rcases mustT_sim (e:=e) (e':=e') (k:=5) (s:=sCl) h.tail with⟨o,o',h1,h2⟩|⟨r1,r1',h1,h2,h3⟩
  ·rw[h1,h2];exact .er _ _
  rw[h1,h2]
  dsimp only
  rcases hE r1 r1' ns h3 with⟨o,o',h4,h5⟩|⟨a,r2,r2',ns1,h4,h5,h6⟩
  ·rw[h4,h5];exact .er _ _
  rw[h4,h5]
  simp only[h6.isTk,h.pText]
  split
  ·exact .add h6.tail _
  ·split
   ·exact keyF_sim f _ _ _ _ _ h6.tail
   ·exact .er _ _
theorem keyP_sim {r r':List Tok} (h:Sim r r') (ns:List Nd):SimR (keyP e E r ns) (keyP e' E' r' ns):=by
 unfold keyP
 rw[show isSym sRC r=isSym sRC r' from h.isTk 5 sRC,h.length]
 split
 ·exact .add h.tail _
 ·exact keyF_sim hE _ _ _ _ _ _ h
theorem primP_sim:SimP (primP e E) (primP e' E'):=by
 intro r r' ns h
 cases r with
 |nil=>obtain rfl:=h.nil.1 rfl;exact .er _ _
 |cons t r=>
  cases r' with
  |nil=>have:=h.nil.2 rfl;cases this
  |cons u r'=>
   obtain⟨h1,h2,h3,h4⟩:=h.uncons
   have c1:isWrd wNull (t::r)=isWrd wNull (u::r'):=h.isTk _ _
   have c2:isWrd wTrue (t::r)=isWrd wTrue (u::r'):=h.isTk _ _
   have c3:isWrd wFalse (t::r)=isWrd wFalse (u::r'):=h.isTk _ _
   have c4:isSym sLB (t::r)=isSym sLB (u::r'):=h.isTk _ _
   have c5:isSym sLC (t::r)=isSym sLC (u::r'):=h.isTk _ _
   have c6:isSym sLP (t::r)=isSym sLP (u::r'):=h.isTk _ _
   unfold primP
   dsimp only
   rw[h1,h2,h3,c1,c2,c3,c4,c5,c6]
   refine SimR.ite Iff.rfl (.add h4 _) ?_
   refine SimR.ite Iff.rfl (.add h4 _) ?_
   refine SimR.ite Iff.rfl (.add h4 _) ?_
   refine SimR.ite Iff.rfl (.add h4 _) ?_
   refine SimR.ite Iff.rfl (.add h4 _) ?_
   refine SimR.ite Iff.rfl ?_ ?_
   ·rw[show isSym sLP r=isSym sLP r' from h4.isTk 5 sLP]
    refine SimR.ite Iff.rfl ?_ (.add h4 _)
    ·rcases listP_sim hE (e:=e) (e':=e') (fin:=sRP) h4.tail ns with⟨o,o',g1,g2⟩|⟨a,r1,r1',ns1,g1,g2,g3⟩
     ·rw[g1,g2];exact .er _ _
     ·rw[g1,g2];exact .add g3 _
   refine SimR.ite Iff.rfl ?_ ?_
   ·rcases mustT_sim (e:=e) (e':=e') (k:=5) (s:=sLP) h4 with⟨o,o',g1,g2⟩|⟨r1,r1',g1,g2,g3⟩
    ·rw[g1,g2];exact .er _ _
    rw[g1,g2]
    dsimp only
    rcases listP_sim hE (e:=e) (e':=e') (fin:=sRP) g3 ns with⟨o,o',g4,g5⟩|⟨a,r2,r2',ns1,g4,g5,g6⟩
    ·rw[g4,g5];exact .er _ _
    ·rw[g4,g5];exact .add g6 _
   refine SimR.ite Iff.rfl ?_ ?_
   ·rcases listP_sim hE (e:=e) (e':=e') (fin:=sRB) h4 ns with⟨o,o',g1,g2⟩|⟨a,r1,r1',ns1,g1,g2,g3⟩
    ·rw[g1,g2];exact .er _ _
    ·rw[g1,g2];exact .add g3 _
   refine SimR.ite Iff.rfl (keyP_sim hE h4 ns) ?_
   refine SimR.ite Iff.rfl ?_ (.er _ _)
   ·rcases hE r r' ns h4 with⟨o,o',g1,g2⟩|⟨a,r1,r1',ns1,g1,g2,g3⟩
    ·rw[g1,g2];exact .er _ _
    rw[g1,g2]
    dsimp only
    rcases mustT_sim (e:=e) (e':=e') (k:=5) (s:=sRP) g3 with⟨o,o',g4,g5⟩|⟨r2,r2',g4,g5,g6⟩
    ·rw[g4,g5];exact .er _ _
    ·rw[g4,g5];exact .ok _ g6 _
theorem postF_sim:∀(f:Nat) (i:Int) (r r':List Tok) (ns:List Nd),Sim r r'→SimR (postF e E f i r ns) (postF e' E' f i r' ns)
 |0,i,r,r',ns,h=> .ok _ h _
 |f+1,i,r,r',ns,h=>by
  simp only[postF,h.isTk]
  split
  ·rcases hE r.tail r'.tail ns h.tail with⟨o,o',g1,g2⟩|⟨a,r1,r1',ns1,g1,g2,g3⟩
   ·rw[g1,g2];exact .er _ _
   rw[g1,g2]
   dsimp only
   rcases mustT_sim (e:=e) (e':=e') (k:=5) (s:=sRB) g3 with⟨o,o',g4,g5⟩|⟨r2,r2',g4,g5,g6⟩
   ·rw[g4,g5];exact .er _ _
   ·rw[g4,g5];exact postF_sim f _ _ _ _ g6
  ·exact .ok _ h _
theorem postP_sim:SimP (postP e E) (postP e' E'):=by
 intro r r' ns h
 unfold postP
 rcases primP_sim hE (e:=e) (e':=e') r r' ns h with⟨o,o',g1,g2⟩|⟨a,r1,r1',ns1,g1,g2,g3⟩
 ·rw[g1,g2];exact .er _ _
 ·rw[g1,g2]
  dsimp only
  rw[g3.length]
  exact postF_sim hE _ _ _ _ _ g3
theorem unaryP_sim:SimP (unaryP e E) (unaryP e' E'):=by
 intro r
 induction r with
 |nil=>intro r' ns h;obtain rfl:=h.nil.1 rfl;exact postP_sim hE _ _ _ h
 |cons t r ih=>
  intro r' ns h
  cases r' with
  |nil=>have:=h.nil.2 rfl;cases this
  |cons u r'=>
   simp only[unaryP,h.isTk]
   split
   ·rcases ih r' ns h.uncons.2.2.2 with⟨o,o',g1,g2⟩|⟨a,r1,r1',ns1,g1,g2,g3⟩
    ·rw[g1,g2];exact .er _ _
    ·rw[g1,g2];exact .add g3 _
   ·exact postP_sim hE _ _ _ h
end
theorem chainF_sim {k:Int} {ops:List Bs} {O O':Pars} (hO:SimP O O'):∀(f:Nat) (i:Int) (r r':List Tok) (ns:List Nd),Sim r r'→SimR (chainF k ops O f i r ns) (chainF k ops O' f i r' ns)
 |0,i,r,r',ns,h=> .ok _ h _
 |f+1,i,r,r',ns,h=>by
  simp only[chainF]
  refine SimR.ite (by rw[h.pKind,h.pText,ne_eq,h.nil]) ?_ (.ok _ h _)
  rcases hO r.tail r'.tail ns h.tail with⟨o,o',g1,g2⟩|⟨a,r1,r1',ns1,g1,g2,g3⟩
  ·rw[g1,g2];exact .er _ _
  ·rw[g1,g2]
   dsimp only
   rw[h.pText]
   exact chainF_sim hO f _ _ _ _ g3
theorem chainP_sim {k:Int} {ops:List Bs} {O O':Pars} (hO:SimP O O'):SimP (chainP k ops O) (chainP k ops O'):=by
 intro r r' ns h
 unfold chainP
 rcases hO r r' ns h with⟨o,o',g1,g2⟩|⟨a,r1,r1',ns1,g1,g2,g3⟩
 ·rw[g1,g2];exact .er _ _
 ·rw[g1,g2]
  dsimp only
  rw[g3.length]
  exact chainF_sim hO _ _ _ _ _ g3
section
variable {e e':Int} {E E':Pars} (hE:SimP E E')
include hE
theorem sumP_sim:SimP (sumP e E) (sumP e' E'):=chainP_sim (chainP_sim (unaryP_sim hE))
theorem cmpP_sim:SimP (cmpP e E) (cmpP e' E'):=by
 intro r r' ns h
 unfold cmpP
 rcases sumP_sim hE (e:=e) (e':=e') r r' ns h with⟨o,o',g1,g2⟩|⟨a,r1,r1',ns1,g1,g2,g3⟩
 ·rw[g1,g2];exact .er _ _
 ·rw[g1,g2]
  dsimp only
  refine SimR.ite (by rw[g3.pKind,g3.pText,ne_eq,g3.nil]) ?_ (.ok _ g3 _)
  rcases sumP_sim hE (e:=e) (e':=e') _ _ ns1 g3.tail with⟨o,o',g4,g5⟩|⟨b,r2,r2',ns2,g4,g5,g6⟩
  ·rw[g4,g5];exact .er _ _
  ·rw[g4,g5,g3.pText];exact .add g6 _
theorem notP_sim:SimP (notP e E) (notP e' E'):=by
 intro r
 induction r with
 |nil=>intro r' ns h;obtain rfl:=h.nil.1 rfl;exact cmpP_sim hE _ _ _ h
 |cons t r ih=>
  intro r' ns h
  cases r' with
  |nil=>have:=h.nil.2 rfl;cases this
  |cons u r'=>
   simp only[notP,h.isTk]
   split
   ·rcases ih r' ns h.uncons.2.2.2 with⟨o,o',g1,g2⟩|⟨a,r1,r1',ns1,g1,g2,g3⟩
    ·rw[g1,g2];exact .er _ _
    ·rw[g1,g2];exact .add g3 _
   ·exact cmpP_sim hE _ _ _ h
theorem orP_sim:SimP (orP e E) (orP e' E'):=chainP_sim (chainP_sim (notP_sim hE))
end
theorem exprP_sim {e e':Int}:∀f,SimP (exprP e f) (exprP e' f)
 |0=>fun _ _ _ _=> .er _ _
 |f+1=>orP_sim (exprP_sim f)
theorem valueP_sim {e e':Int} {f:Nat} {kind:Int} {text:Bs}:SimP (valueP e f kind text) (valueP e' f kind text):=by
 intro r r' ns h
 unfold valueP
 rcases exprP_sim (e:=e) (e':=e') f r r' ns h with⟨o,o',g1,g2⟩|⟨a,r1,r1',ns1,g1,g2,g3⟩
 ·rw[g1,g2];exact .er _ _
 rw[g1,g2]
 dsimp only
 rcases mustT_sim (e:=e) (e':=e') (k:=5) (s:=sSc) g3 with⟨o,o',g4,g5⟩|⟨r2,r2',g4,g5,g6⟩
 ·rw[g4,g5];exact .er _ _
 ·rw[g4,g5];exact .add g6 _
theorem stmtP_sim {e e':Int} {f:Nat} {Bl Bl':Pars} (hB:SimP Bl Bl'):SimP (stmtP e f Bl) (stmtP e' f Bl'):=by
 intro r r' ns h
 unfold stmtP
 simp only[h.isTk,h.assigns,h.pText]
 split
 ·rcases mustK_sim (e:=e) (e':=e') (k:=1) h.tail with⟨o,o',g1,g2⟩|⟨s,r1,r1',g1,g2,g3⟩
  ·rw[g1,g2];exact .er _ _
  rw[g1,g2]
  dsimp only
  rcases mustT_sim (e:=e) (e':=e') (k:=5) (s:=sEq1) g3 with⟨o,o',g4,g5⟩|⟨r2,r2',g4,g5,g6⟩
  ·rw[g4,g5];exact .er _ _
  ·rw[g4,g5];exact valueP_sim _ _ _ g6
 split
 ·rcases exprP_sim (e:=e) (e':=e') f _ _ ns h.tail with⟨o,o',g1,g2⟩|⟨a,r1,r1',ns1,g1,g2,g3⟩
  ·rw[g1,g2];exact .er _ _
  rw[g1,g2]
  dsimp only
  rcases hB _ _ ns1 g3 with⟨o,o',g4,g5⟩|⟨b,r2,r2',ns2,g4,g5,g6⟩
  ·rw[g4,g5];exact .er _ _
  rw[g4,g5]
  simp only[g6.isTk]
  split
  ·rcases hB _ _ ns2 g6.tail with⟨o,o',g7,g8⟩|⟨c,r3,r3',ns3,g7,g8,g9⟩
   ·rw[g7,g8];exact .er _ _
   ·rw[g7,g8];exact .add g9 _
  ·exact .add g6 _
 split
 ·rcases exprP_sim (e:=e) (e':=e') f _ _ ns h.tail with⟨o,o',g1,g2⟩|⟨a,r1,r1',ns1,g1,g2,g3⟩
  ·rw[g1,g2];exact .er _ _
  rw[g1,g2]
  dsimp only
  rcases hB _ _ ns1 g3 with⟨o,o',g4,g5⟩|⟨b,r2,r2',ns2,g4,g5,g6⟩
  ·rw[g4,g5];exact .er _ _
  ·rw[g4,g5];exact .add g6 _
 split
 ·exact valueP_sim _ _ _ h.tail
 split
 ·exact valueP_sim _ _ _ h.tail.tail
 ·exact valueP_sim _ _ _ h
theorem stmtsF_sim {e e':Int} {S S':Pars} (hS:SimP S S'):∀(g:Nat) (l:List Int) (r r':List Tok) (ns:List Nd),Sim r r'→SimR (stmtsF e S g l r ns) (stmtsF e' S' g l r' ns)
 |0,l,r,r',ns,h=> .er _ _
 |g+1,l,r,r',ns,h=>by
  simp only[stmtsF,h.isTk]
  split
  ·exact .add h.tail _
  ·rcases hS r r' ns h with⟨o,o',g1,g2⟩|⟨a,r1,r1',ns1,g1,g2,g3⟩
   ·rw[g1,g2];exact .er _ _
   ·rw[g1,g2];exact stmtsF_sim hS g _ _ _ _ g3
theorem blockP_sim {e e':Int}:∀f,SimP (blockP e f) (blockP e' f)
 |0=>fun _ _ _ _=> .er _ _
 |f+1=>fun r r' ns h=>by
  simp only[blockP]
  rcases mustT_sim (e:=e) (e':=e') (k:=5) (s:=sLC) h with⟨o,o',g1,g2⟩|⟨r1,r1',g1,g2,g3⟩
  ·rw[g1,g2];exact .er _ _
  ·rw[g1,g2]
   dsimp only
   rw[g3.length]
   exact stmtsF_sim (stmtP_sim (blockP_sim f)) _ _ _ _ _ g3
theorem parF_sim {e e':Int}:∀(f:Nat) (l:List Bs) (r r':List Tok),Sim r r'→(∃o o',parF e f l r= .error o∧parF e' f l r'= .error o')∨∃l1 r1 r1',parF e f l r= .ok (l1,r1)∧parF e' f l r'= .ok (l1,r1')∧Sim r1 r1'
 |0,l,r,r',h=> .inl ⟨_,_,rfl,rfl⟩
 |f+1,l,r,r',h=>by
  simp only[parF]
  rcases mustK_sim (e:=e) (e':=e') (k:=1) h with⟨o,o',g1,g2⟩|⟨s,r1,r1',g1,g2,g3⟩
  ·rw[g1,g2];exact .inl ⟨_,_,rfl,rfl⟩
  ·rw[g1,g2]
   simp only[g3.isTk]
   split
   ·exact .inr ⟨_,_,_,rfl,rfl,g3.tail⟩
   ·split
    ·exact parF_sim f _ _ _ g3.tail
    ·exact .inl ⟨_,_,rfl,rfl⟩
theorem parP_sim {e e':Int} {r r':List Tok} (h:Sim r r'):(∃o o',parP e r= .error o∧parP e' r'= .error o')∨∃l1 r1 r1',parP e r= .ok (l1,r1)∧parP e' r'= .ok (l1,r1')∧Sim r1 r1':=by
 unfold parP
 rw[show isSym sRP r=isSym sRP r' from h.isTk 5 sRP,h.length]
 split
 ·exact .inr ⟨_,_,_,rfl,rfl,h.tail⟩
 ·exact parF_sim _ _ _ _ h
theorem funcP_sim {e e':Int} {f:Nat} {r r':List Tok} (h:Sim r r') (ns:List Nd):(∃o o',funcP e f r ns= .error o∧funcP e' f r' ns= .error o')∨∃x r1 r1' ns1,funcP e f r ns= .ok (x,r1,ns1)∧funcP e' f r' ns= .ok (x,r1',ns1)∧Sim r1 r1':=by
 unfold funcP
 rcases mustT_sim (e:=e) (e':=e') (k:=2) (s:=wFunc) h with⟨o,o',g1,g2⟩|⟨r1,r1',g1,g2,h1⟩
 ·rw[g1,g2];exact .inl ⟨_,_,rfl,rfl⟩
 rw[g1,g2]
 dsimp only
 rcases mustK_sim (e:=e) (e':=e') (k:=1) h1 with⟨o,o',g1,g2⟩|⟨s,r2,r2',g1,g2,h2⟩
 ·rw[g1,g2];exact .inl ⟨_,_,rfl,rfl⟩
 rw[g1,g2]
 dsimp only
 rcases mustT_sim (e:=e) (e':=e') (k:=5) (s:=sLP) h2 with⟨o,o',g1,g2⟩|⟨r3,r3',g1,g2,h3⟩
 ·rw[g1,g2];exact .inl ⟨_,_,rfl,rfl⟩
 rw[g1,g2]
 dsimp only
 rcases parP_sim (e:=e) (e':=e') h3 with⟨o,o',g1,g2⟩|⟨l,r4,r4',g1,g2,h4⟩
 ·rw[g1,g2];exact .inl ⟨_,_,rfl,rfl⟩
 rw[g1,g2]
 dsimp only
 rcases blockP_sim (e:=e) (e':=e') f r4 r4' ns h4 with⟨o,o',g1,g2⟩|⟨b,r5,r5',ns5,g1,g2,h5⟩
 ·rw[g1,g2];exact .inl ⟨_,_,rfl,rfl⟩
 ·rw[g1,g2];exact .inr ⟨_,_,_,_,rfl,rfl,h5⟩
theorem progF_sim {e e':Int} {f:Nat}:∀(g:Nat) (fs:List Fc) (r r':List Tok) (ns:List Nd),Sim r r'→(∃o o',progF e f g fs r ns= .error o∧progF e' f g fs r' ns= .error o')∨∃p,progF e f g fs r ns= .ok p∧progF e' f g fs r' ns= .ok p
 |0,fs,r,r',ns,h=> .inr ⟨_,rfl,rfl⟩
 |g+1,fs,r,r',ns,h=>by
  simp only[progF]
  by_cases hr:r=[]
  ·rw[if_pos hr,if_pos (h.nil.1 hr)];exact .inr ⟨_,rfl,rfl⟩
  ·rw[if_neg hr,if_neg (fun hh=>hr (h.nil.2 hh))]
   rcases funcP_sim (e:=e) (e':=e') (f:=f) h ns with⟨o,o',g1,g2⟩|⟨x,r1,r1',ns1,g1,g2,g3⟩
   ·rw[g1,g2];exact .inl ⟨_,_,rfl,rfl⟩
   ·rw[g1,g2];exact progF_sim g _ _ _ _ g3
theorem progP_sim {e e':Int} {r r':List Tok} (h:Sim r r'):(∃o o',progP e r= .error o∧progP e' r'= .error o')∨∃p,progP e r= .ok p∧progP e' r'= .ok p:=by
 unfold progP
 rw[h.length]
 exact progF_sim _ _ _ _ _ h
end Go.Proofs.YtdccglkagfdooaaGreatDoor
namespace Go.Proofs.YtdccglkagfdooaaGreatDoor
def nodeOk (n:Nd):Bool:=fieldsB ⟨n.kind,n.text,n.val,n.keys⟩ n.kids.length&&countB n.kind n.kids.length
def backF (l:List Nd) (F:Nat→Option Nat) (kind:Int):List Int→Nat→Option Nat
 |[],at_=>some at_
 |x::xs,at_=>
  if at_<1∨x≠(at_:Int) - 1∨fitsB kind xs.length ((l[at_ - 1]?.map (·.kind)).getD 0)=false then none
  else match F (at_ - 1) with
   |some a=>backF l F kind xs a
   |none=>none
def firstF (l:List Nd):Nat→Nat→Option Nat
 |0,_=>none
 |f+1,i=>match l[i]? with
  |none=>none
  |some n=>if nodeOk n then backF l (firstF l f) n.kind n.kids.reverse i else none
theorem prefix_get {α:Type} {w l:List α} {a:Nat} (h:w<+:l.drop a) {j:Nat} (hj:j<w.length):l[a+j]?=some w[j]:=by
 obtain⟨r,hr⟩:=h
 have h1:(l.drop a)[j]?=some w[j]:=by rw[←hr,List.getElem?_append_left hj];exact List.getElem?_eq_getElem hj
 rw[List.getElem?_drop] at h1
 exact h1
theorem prefix_app {α:Type} {w v l:List α} {a:Nat}:w++v<+:l.drop a↔w<+:l.drop a∧v<+:l.drop (a+w.length):=by
 constructor
 ·rintro⟨r,hr⟩
  refine⟨⟨v++r,by rw[←hr,List.append_assoc]⟩,⟨r,?_⟩⟩
  rw[←List.drop_drop,←hr,List.append_assoc,List.drop_left]
 ·rintro⟨⟨r,hr⟩,⟨q,hq⟩⟩
  refine⟨q,?_⟩
  rw[←List.drop_drop,←hr,List.drop_left] at hq
  rw[←hr,←hq,List.append_assoc]
theorem Tr.flat_root (T:Tr) (b:Nat):∃n w,T.flat b=w++[n]∧n.kind=T.kind∧w.length+1=T.size:=by
 obtain⟨a,ts⟩:=T
 exact⟨_,_,rfl,rfl,by simp[Tr.flats_length,Tr.size]⟩
structure Seg (l:List Nd) (T:Tr) (a i:Nat):Prop where
 wf:T.wf=true
 len:a+T.size=i+1
 seg:T.flat a<+:l.drop a
theorem Seg.kind {l:List Nd} {T:Tr} {a i:Nat} (h:Seg l T a i):∃n,l[i]?=some n∧n.kind=T.kind:=by
 obtain⟨n,w,h1,h2,h3⟩:=T.flat_root a
 have:=h.len
 have h4:=h.seg
 rw[h1] at h4
 have:=prefix_get h4 (j:=w.length) (by simp)
 refine⟨n,?_,h2⟩
 rw[show i=a+w.length by omega,this]
 simp
theorem wfs_snoc {k:Int} {ts:List Tr} {T:Tr} (h:Tr.wfs k 0 ts=true) (hT:T.wf=true) (hf:fitsB k ts.length T.kind=true):Tr.wfs k 0 (ts++[T])=true:=by
 rw[Tr.wfs_append,h,Nat.zero_add]
 simp[Tr.wfs,hf,hT]
theorem backF_spec {l:List Nd} {F:Nat→Option Nat} (hF:∀i a,F i=some a→∃T,Seg l T a i) {kind:Int}:∀(xs:List Int) (at_ a:Nat),backF l F kind xs at_=some a→
  ∃Ts,Tr.wfs kind 0 Ts=true∧a+Tr.sizes Ts=at_∧Tr.flats a Ts<+:l.drop a∧xs.reverse=Tr.roots a Ts
 |[],at_,a,h=>by
  cases h
  exact⟨[],rfl,rfl,by simp[Tr.flats],rfl⟩
 |x::xs,at_,a,h=>by
  simp only[backF] at h
  split at h
  ·cases h
  rename_i hc
  simp only[not_or,Nat.not_lt,ne_eq,Classical.not_not,Bool.not_eq_false] at hc
  obtain⟨c1,c2,c3⟩:=hc
  split at h
  rotate_left
  ·cases h
  rename_i a1 h1
  obtain⟨T,hT⟩:=hF _ _ h1
  obtain⟨Ts,g1,g2,g3,g4⟩:=backF_spec hF xs a1 a h
  obtain⟨n,hn1,hn2⟩:=hT.kind
  rw[hn1] at c3
  have hlen:=hT.len
  have hl:Ts.length=xs.length:=by
   have:=congrArg List.length g4
   rw[Tr.roots_length,List.length_reverse] at this
   exact this.symm
  refine⟨Ts++[T],wfs_snoc g1 hT.wf (by rw[hl,←hn2];simpa using c3),?_,?_,?_⟩
  ·rw[Tr.sizes_append];simp only[Tr.sizes];omega
  ·rw[Tr.flats_append,prefix_app,Tr.flats_length,g2]
   refine⟨g3,?_⟩
   simpa[Tr.flats] using hT.seg
  ·rw[List.reverse_cons,g4,Tr.roots_append,g2]
   simp only[Tr.roots]
   congr 2
   omega
theorem firstF_spec {l:List Nd}:∀(f i a:Nat),firstF l f i=some a→∃T,Seg l T a i
 |0,i,a,h=>by cases h
 |f+1,i,a,h=>by
  simp only[firstF] at h
  split at h
  ·cases h
  rename_i n hn
  split at h
  rotate_left
  ·cases h
  rename_i hok
  obtain⟨Ts,g1,g2,g3,g4⟩:=backF_spec (firstF_spec f) _ _ _ h
  rw[List.reverse_reverse] at g4
  have hl:Ts.length=n.kids.length:=by rw[g4,Tr.roots_length]
  simp only[nodeOk,Bool.and_eq_true] at hok
  refine⟨.node ⟨n.kind,n.text,n.val,n.keys⟩ Ts,?_,?_,?_⟩
  ·simp only[Tr.wf,Bool.and_eq_true,hl]
   exact⟨hok,g1⟩
  ·simp only[Tr.size];omega
  ·simp only[Tr.flat]
   rw[prefix_app,Tr.flats_length,g2]
   refine⟨g3,?_⟩
   have hlt:i<l.length:=by
    rcases Nat.lt_or_ge i l.length with h'|h'
    ·exact h'
    ·rw[List.getElem?_eq_none h'] at hn;cases hn
   rw[List.drop_eq_getElem_cons hlt]
   have:l[i]=n:=by rw[List.getElem?_eq_getElem hlt] at hn;exact Option.some.inj hn
   rw[this,←g4]
   exact⟨_,rfl⟩
theorem backF_good {l:List Nd} {F:Nat→Option Nat} {kind:Int}:∀(Ts:List Tr) (a:Nat),(∀T∈Ts,∀a i,Seg l T a i→F i=some a)→Tr.wfs kind 0 Ts=true→Tr.flats a Ts<+:l.drop a→backF l F kind (Tr.roots a Ts).reverse (a+Tr.sizes Ts)=some a:=by
 intro Ts
 induction h:Ts.length generalizing Ts with
 |zero=>
  intro a _ _ _
  obtain rfl:=List.length_eq_zero_iff.1 h
  rfl
 |succ n ih=>
  intro a hF hw hs
  obtain⟨us,T,rfl⟩:∃us T,Ts=us++[T]:=by
   refine⟨Ts.dropLast,Ts.getLast (by intro e;rw[e] at h;simp at h),(List.dropLast_concat_getLast _).symm⟩
  have hlu:us.length=n:=by simpa using h
  rw[Tr.wfs_append,Bool.and_eq_true] at hw
  rw[Tr.flats_append,prefix_app,Tr.flats_length] at hs
  have hwT:fitsB kind us.length T.kind=true∧T.wf=true:=by
   have:=hw.2
   simp only[Tr.wfs,Bool.and_eq_true,Nat.zero_add] at this
   exact this.1
  have hseg:Seg l T (a+Tr.sizes us) (a+Tr.sizes us+T.size - 1):=⟨hwT.2,by have:=T.size_pos;omega,by simpa[Tr.flats] using hs.2⟩
  obtain⟨ndM,hn1,hn2⟩:=hseg.kind
  have hpos:=T.size_pos
  have hFT:=hF T (by simp) _ _ hseg
  have:=ih us hlu a (fun X hX=>hF X (by simp[hX])) hw.1 hs.1
  rw[Tr.roots_append,Tr.sizes_append,List.reverse_append]
  simp only[Tr.roots,Tr.sizes,List.reverse_cons,List.reverse_nil,List.nil_append,List.singleton_append,Nat.add_zero,backF]
  rw[if_neg]
  ·rw[show a+(Tr.sizes us+T.size) - 1=a+Tr.sizes us+T.size - 1 by omega,hFT]
   exact this
  ·simp only[not_or,Nat.not_lt,ne_eq,Classical.not_not,Bool.not_eq_false]
   refine⟨by omega,by omega,?_⟩
   rw[List.length_reverse,Tr.roots_length,show a+(Tr.sizes us+T.size) - 1=a+Tr.sizes us+T.size - 1 by omega,hn1]
   simpa[hn2] using hwT.1
theorem firstF_good {l:List Nd}:∀(f:Nat) (T:Tr) (a i:Nat),T.ht≤f→Seg l T a i→firstF l f i=some a
 |0,T,a,i,h,_=>by cases T;simp[Tr.ht] at h
 |f+1,T,a,i,h,hs=>by
  obtain⟨b,ts⟩:=T
  obtain⟨hf,hc,hws⟩:=wf_parts hs.wf
  have hlen:=hs.len
  have hseg:=hs.seg
  simp only[Tr.size] at hlen
  simp only[Tr.flat] at hseg
  rw[prefix_app,Tr.flats_length] at hseg
  have hi:l[i]?=some ⟨b.kind,b.text,b.val,b.keys,Tr.roots a ts⟩:=by
   have:=prefix_get hseg.2 (j:=0) (by simp)
   rw[show i=a+Tr.sizes ts+0 by omega,this]
   rfl
  simp only[firstF,hi]
  have hok:nodeOk ⟨b.kind,b.text,b.val,b.keys,Tr.roots a ts⟩=true:=by
   simp only[nodeOk,Bool.and_eq_true,Tr.roots_length]
   exact⟨hf,hc⟩
  rw[if_pos hok,show i=a+Tr.sizes ts by omega]
  refine backF_good ts a (fun T hT a i hs=>firstF_good f T a i ?_ hs) hws hseg.1
  have:=Tr.ht_mem hT
  simp only[Tr.ht] at h
  omega
def ordF (l:List Nd):List Fc→Nat→Option Nat
 |[],s=>some s
 |f::fs,s=>
  if nameB f.name=false∨f.params.all nameB=false then none
  else if f.body<(s:Int)∨(l.length:Int)≤f.body∨(l[f.body.toNat]?.map (·.kind))≠some 19∨firstF l (l.length+1) f.body.toNat≠some s then none
  else ordF l fs (f.body.toNat+1)
def ordB (p:Pg):Bool:=decide (ordF p.nodes p.funcs 0=some p.nodes.length)
theorem ordF_spec {l:List Nd}:∀(fs:List Fc) (s e:Nat),ordF l fs s=some e→∃Fs:List FnT,(∀F∈Fs,FnTOk F)∧fs=fcs s Fs∧e=s+Tr.sizes (Fs.map (·.body))∧Tr.flats s (Fs.map (·.body))<+:l.drop s
 |[],s,e,h=>by cases h;exact⟨[],fun _ h=>(by cases h),rfl,rfl,by simp[Tr.flats]⟩
 |f::fs,s,e,h=>by
  simp only[ordF] at h
  split at h
  ·cases h
  rename_i h1
  split at h
  ·cases h
  rename_i h2
  simp only[not_or,Bool.not_eq_false,Int.not_lt,Int.not_le,ne_eq,Classical.not_not] at h1 h2
  obtain⟨b1,b2,b3,b4⟩:=h2
  obtain⟨T,hT⟩:=firstF_spec _ _ _ b4
  obtain⟨Fs,g1,g2,g3,g4⟩:=ordF_spec fs _ _ h
  have hlen:=hT.len
  obtain⟨n,hn1,hn2⟩:=hT.kind
  rw[hn1] at b3
  have hk:T.kind=19:=by rw[←hn2];simpa using b3
  refine⟨⟨f.name,f.params,T⟩::Fs,?_,?_,?_,?_⟩
  ·intro F hF
   rcases List.mem_cons.1 hF with rfl|hF
   ·exact⟨h1.1,fun s hs=>List.all_eq_true.1 h1.2 s hs,hk,hT.wf⟩
   ·exact g1 F hF
  ·simp only[fcs]
   rw[show s+T.size=f.body.toNat+1 by omega,←g2]
   have:f=⟨f.name,f.params,((f.body.toNat+1:Nat):Int) - 1⟩:=by
    obtain⟨a,b,c⟩:=f
    simp only[Fc.mk.injEq,true_and]
    simp only at b1
    omega
   rw[←this]
  ·simp only[List.map_cons,Tr.sizes];omega
  ·simp only[List.map_cons,Tr.flats]
   rw[prefix_app,Tr.flat_length]
   refine⟨hT.seg,?_⟩
   rw[show s+T.size=f.body.toNat+1 by omega]
   exact g4
theorem ordF_good {l:List Nd}:∀(Fs:List FnT) (s:Nat),(∀F∈Fs,FnTOk F)→Tr.flats s (Fs.map (·.body))<+:l.drop s→ordF l (fcs s Fs) s=some (s+Tr.sizes (Fs.map (·.body)))
 |[],s,_,_=>rfl
 |F::Fs,s,h,hs=>by
  simp only[List.map_cons,Tr.flats] at hs
  rw[prefix_app,Tr.flat_length] at hs
  have hF:=h F (by simp)
  have hpos:=F.body.size_pos
  have hseg:Seg l F.body s (s+F.body.size - 1):=⟨hF.wf,by omega,hs.1⟩
  obtain⟨n,hn1,hn2⟩:=hseg.kind
  have hle:s+F.body.size≤l.length:=by
   have:=hs.1.length_le
   rw[Tr.flat_length,List.length_drop] at this
   omega
  have hht:F.body.ht≤l.length+1:=by
   have:∀(m:Nat) (T:Tr),T.size≤m→T.ht≤T.size:=by
    intro m
    induction m with
    |zero=>intro T hT;have:=T.size_pos;omega
    |succ m ih=>
     intro T hT
     obtain⟨a,ts⟩:=T
     simp only[Tr.size] at hT
     simp only[Tr.ht,Tr.size]
     have:Tr.hts ts≤Tr.sizes ts:=hts_le fun X hX=>by
      have h1:∀(l:List Tr),X∈l→X.size≤Tr.sizes l:=by
       intro l
       induction l with
       |nil=>intro h;cases h
       |cons y l ih=>
        intro h
        simp only[Tr.sizes]
        rcases List.mem_cons.1 h with rfl|h
        ·omega
        ·have:=ih h;omega
      have h2:=h1 ts hX
      have:=ih X (by omega)
      omega
     omega
   have:=this _ F.body (Nat.le_refl _)
   omega
  have hfirst:=firstF_good (l:=l) (l.length+1) F.body s _ hht hseg
  have hn:(((s+F.body.size:Nat):Int) - 1).toNat=s+F.body.size - 1:=by omega
  simp only[fcs,ordF,List.map_cons,Tr.sizes]
  rw[if_neg,if_neg]
  ·rw[hn,show s+F.body.size - 1+1=s+F.body.size by omega,ordF_good Fs _ (fun X hX=>h X (by simp[hX])) hs.2]
   congr 1;omega
  ·simp only[not_or,Int.not_lt,Int.not_le,ne_eq,Classical.not_not]
   refine⟨by omega,by omega,?_,?_⟩
   ·rw[hn,hn1];simp[hn2,hF.kind]
   ·rw[hn];exact hfirst
  ·simp only[not_or,Bool.not_eq_false]
   exact⟨hF.name,List.all_eq_true.2 hF.params⟩
theorem ord_iff {p:Pg}:ordB p=true↔∃Fs:List FnT,(∀F∈Fs,FnTOk F)∧p=progOf Fs:=by
 unfold ordB
 rw[decide_eq_true_eq]
 constructor
 ·intro h
  obtain⟨Fs,g1,g2,g3,g4⟩:=ordF_spec _ _ _ h
  refine⟨Fs,g1,?_⟩
  obtain⟨nodes,funcs⟩:=p
  simp only at g2 g3 g4
  simp only[List.drop_zero] at g4
  have:Tr.flats 0 (Fs.map (·.body))=nodes:=g4.eq_of_length (by rw[Tr.flats_length];omega)
  simp only[progOf,this,g2]
 ·rintro⟨Fs,h,rfl⟩
  have:=ordF_good (l:=(progOf Fs).nodes) Fs 0 h (by simp[progOf])
  simp only[progOf] at this⊢
  rw[this,Nat.zero_add,Tr.flats_length]
end Go.Proofs.YtdccglkagfdooaaGreatDoor
namespace Go.Proofs.YtdccglkagfdooaaGreatDoor
inductive Pc where
 |t (k:Tok)
 |b (s:Bs)
def tkP:List Pc→List Tok
 |[]=>[]
 | .t k::l=>k::tkP l
 | .b _::l=>tkP l
def txP:List Pc→Bs
 |[]=>[]
 | .t k::l=>(textT k).1++txP l
 | .b s::l=>s++txP l
theorem tkP_append:∀a c:List Pc,tkP (a++c)=tkP a++tkP c
 |[],c=>rfl
 | .t k::a,c=>by simp[tkP,tkP_append a c]
 | .b s::a,c=>by simp[tkP,tkP_append a c]
abbrev sp1:Pc:= .b [32]
def tabs (n:Nat):Bs:=List.replicate n 9
abbrev nl (n:Nat):Pc:= .b (10::tabs n)
def qP (lv req:Int) (p:List Pc):List Pc:=if lv<req then .t (sy sLP)::(p++[.t (sy sRP)]) else p
def commaP:List (List Pc)→List Pc
 |[]=>[]
 |[p]=>p
 |p::q::l=>p++ .t (sy sCm)::sp1::commaP (q::l)
def keysP:List Bs→List (List Pc)→List (List Pc)
 |k::ks,p::ps=>(.t (tk 4 k):: .t (sy sCl)::sp1::p)::keysP ks ps
 |_,_=>[]
def linesP (d:Nat):List (List Pc)→List Pc
 |[]=>[]
 |p::ps=>nl d::(p++linesP d ps)
def pcN (d:Nat) (a:Lab) (lv:List Int) (ps:List (List Pc)):List Pc:=
 if a.kind=1 then [.t (wd wNull)]
 else if a.kind=2 then [.t (wd (if a.val=1 then wTrue else wFalse))]
 else if a.kind=3 then [.t ⟨3,[],a.val,0⟩]
 else if a.kind=4 then [.t (tk 4 a.text)]
 else if a.kind=5 then [.t (tk 1 a.text)]
 else if a.kind=6 then .t (sy sLB)::(commaP ps++[.t (sy sRB)])
 else if a.kind=7 then .t (sy sLC)::(commaP (keysP a.keys ps)++[.t (sy sRC)])
 else if a.kind=8 then
  (match lv,ps with
  |[l],[p]=>if a.text=wNot then .t (wd wNot)::sp1::qP l 3 p else .t (sy sMi)::qP l 7 p
  |_,_=>[])
 else if a.kind=9 then
  (match lv,ps with
  |[l1,l2],[p1,p2]=>qP l1 (if binL a.text=4 then 5 else binL a.text) p1++sp1:: .t (tk (opK a.text) a.text)::sp1::qP l2 (binL a.text+1) p2
  |_,_=>[])
 else if a.kind=10 then
  (match lv,ps with
  |[l1,_],[p1,p2]=>qP l1 8 p1++ .t (sy sLB)::(p2++[.t (sy sRB)])
  |_,_=>[])
 else if a.kind=11 then .t (tk 1 a.text):: .t (sy sLP)::(commaP ps++[.t (sy sRP)])
 else if a.kind=12 then .t (tk 6 a.text):: .t (sy sLP)::(commaP ps++[.t (sy sRP)])
 else if a.kind=13 then
  (match ps with
  |[p]=> .t (wd wLet)::sp1:: .t (tk 1 a.text)::sp1:: .t (sy sEq1)::sp1::(p++[.t (sy sSc)])
  |_=>[])
 else if a.kind=14 then
  (match ps with
  |[p]=> .t (tk 1 a.text)::sp1:: .t (sy sEq1)::sp1::(p++[.t (sy sSc)])
  |_=>[])
 else if a.kind=15 then
  (match ps with
  |[c,b]=> .t (wd wIf)::sp1::(c++sp1::b)
  |[c,b,e]=> .t (wd wIf)::sp1::(c++sp1::(b++sp1:: .t (wd wElse)::sp1::e))
  |_=>[])
 else if a.kind=16 then
  (match ps with
  |[c,b]=> .t (wd wWhile)::sp1::(c++sp1::b)
  |_=>[])
 else if a.kind=17 then
  (match ps with
  |[p]=> .t (wd wReturn)::sp1::(p++[.t (sy sSc)])
  |_=>[])
 else if a.kind=18 then
  (match ps with
  |[p]=>p++[.t (sy sSc)]
  |_=>[])
 else .t (sy sLC)::(linesP (d+1) ps++[nl d,.t (sy sRC)])
mutual
def Tr.pc (d:Nat):Tr→List Pc
 | .node a ts=>pcN d a (ts.map Tr.level) (Tr.pcl (if a.kind=19 then d+1 else d) ts)
def Tr.pcl (d:Nat):List Tr→List (List Pc)
 |[]=>[]
 |t::ts=>t.pc d::Tr.pcl d ts
end
theorem Tr.pcl_eq (d:Nat):∀ts:List Tr,Tr.pcl d ts=ts.map (Tr.pc d)
 |[]=>rfl
 |t::ts=>by simp[Tr.pcl,Tr.pcl_eq d ts]
def parPc:List Bs→List Pc
 |[]=>[]
 |[s]=>[.t (tk 1 s)]
 |s::q::l=> .t (tk 1 s):: .t (sy sCm)::sp1::parPc (q::l)
def FnT.pc (f:FnT):List Pc:= .t (wd wFunc)::sp1:: .t (Go.Proofs.YtdccglkagfdooaaGreatDoor.tk 1 f.name):: .t (sy sLP)::(parPc f.params++ .t (sy sRP)::sp1::(f.body.pc 0++[nl 0]))
def progPc (fs:List FnT):List Pc:=(fs.map FnT.pc).flatten
theorem tkP_qP (lv req:Int) (p:List Pc):tkP (qP lv req p)=qT lv req (tkP p):=by
 unfold qP qT
 split
 ·simp[tkP,tkP_append]
 ·rfl
theorem tkP_commaP:∀ps:List (List Pc),tkP (commaP ps)=commaT (ps.map tkP)
 |[]=>rfl
 |[p]=>rfl
 |p::q::l=>by
  have:=tkP_commaP (q::l)
  simp only[commaP,tkP_append,tkP,List.map_cons,commaT] at this⊢
  rw[this]
theorem tkP_keysP:∀(ks:List Bs) (ps:List (List Pc)),(keysP ks ps).map tkP=keysT ks (ps.map tkP)
 |[],_=>rfl
 |_::_,[]=>rfl
 |k::ks,p::ps=>by simp[keysP,keysT,tkP,tkP_keysP ks ps]
theorem tkP_linesP (d:Nat):∀ps:List (List Pc),tkP (linesP d ps)=(ps.map tkP).flatten
 |[]=>rfl
 |p::ps=>by simp[linesP,tkP,tkP_append,tkP_linesP d ps]
theorem tkP_tabs_last (a:List Pc) (d:Nat) (k:Tok):tkP (a++[nl d,.t k])=tkP a++[k]:=by simp[tkP,tkP_append]
theorem kid_size {X:Tr} {a:Lab} {ts:List Tr} {n:Nat} (hX:X∈ts) (hn:(Tr.node a ts).size≤n+1):X.size≤n:=by
 have:∀(l:List Tr),X∈l→X.size≤Tr.sizes l:=by
  intro l
  induction l with
  |nil=>intro h;cases h
  |cons y l ih=>
   intro h
   simp only[Tr.sizes]
   rcases List.mem_cons.1 h with rfl|h
   ·omega
   ·have:=ih h;omega
 have:=this ts hX
 simp only[Tr.size] at hn
 omega
theorem kid_wf {X:Tr} {k:Int} {ts:List Tr} (hX:X∈ts) (hws:Tr.wfs k 0 ts=true):X.wf=true:=by
 obtain⟨i,hi⟩:=List.getElem?_of_mem hX
 exact(wfs_mem hws i X hi).1
theorem Tr.pc_tk:∀(n:Nat) (T:Tr) (d:Nat),T.size≤n→T.wf=true→tkP (T.pc d)=T.tk:=by
 intro n
 induction n with
 |zero=>intro T d hn;have:=T.size_pos;omega
 |succ n ih=>
  intro T d hn hw
  obtain⟨⟨kind,text,val,keys⟩,ts⟩:=T
  obtain⟨hf,hc,hws⟩:=wf_parts hw
  simp only at hf hc hws
  have hX:∀X∈ts,∀d,tkP (X.pc d)=X.tk:=fun X hX d=>ih X d (kid_size hX hn) (kid_wf hX hws)
  have hl:∀d,(Tr.pcl d ts).map tkP=Tr.tkl ts:=fun d=>by
   rw[Tr.pcl_eq,Tr.tkl_eq,List.map_map]
   exact List.map_congr_left fun X h=>hX X h d
  rcases count_cases hc with⟨h1,h2,h0⟩|⟨rfl,h0⟩|⟨rfl,h0⟩|⟨rfl,h0⟩|⟨rfl,h0⟩|⟨rfl,h0⟩|⟨rfl,h0⟩|⟨rfl,h0⟩|⟨rfl,h0⟩|⟨rfl,h0⟩|⟨rfl,h0⟩|rfl|rfl|rfl|rfl|rfl
  ·obtain rfl:=len0 h0
   have:kind=1∨kind=2∨kind=3∨kind=4∨kind=5:=by omega
   rcases this with rfl|rfl|rfl|rfl|rfl<;>rfl
  ·obtain⟨A,rfl⟩:=len1 h0
   have e1:(Tr.node ⟨8,text,val,keys⟩ [A]).pc d=if text=wNot then .t (wd wNot)::sp1::qP A.level 3 (A.pc d) else .t (sy sMi)::qP A.level 7 (A.pc d):=rfl
   have e2:(Tr.node ⟨8,text,val,keys⟩ [A]).tk=if text=wNot then wd wNot::qT A.level 3 A.tk else sy sMi::qT A.level 7 A.tk:=rfl
   rw[e1,e2]
   split<;>simp[tkP,tkP_qP,hX]
  ·obtain⟨A,rfl⟩:=len1 h0
   have e1:(Tr.node ⟨13,text,val,keys⟩ [A]).pc d= .t (wd wLet)::sp1:: .t (Go.Proofs.YtdccglkagfdooaaGreatDoor.tk 1 text)::sp1:: .t (sy sEq1)::sp1::(A.pc d++[.t (sy sSc)]):=rfl
   have e2:(Tr.node ⟨13,text,val,keys⟩ [A]).tk=wd wLet::Go.Proofs.YtdccglkagfdooaaGreatDoor.tk 1 text::sy sEq1::(A.tk++[sy sSc]):=rfl
   rw[e1,e2];simp[tkP,tkP_append,hX]
  ·obtain⟨A,rfl⟩:=len1 h0
   have e1:(Tr.node ⟨14,text,val,keys⟩ [A]).pc d= .t (Go.Proofs.YtdccglkagfdooaaGreatDoor.tk 1 text)::sp1:: .t (sy sEq1)::sp1::(A.pc d++[.t (sy sSc)]):=rfl
   have e2:(Tr.node ⟨14,text,val,keys⟩ [A]).tk=Go.Proofs.YtdccglkagfdooaaGreatDoor.tk 1 text::sy sEq1::(A.tk++[sy sSc]):=rfl
   rw[e1,e2];simp[tkP,tkP_append,hX]
  ·obtain⟨A,rfl⟩:=len1 h0
   have e1:(Tr.node ⟨17,text,val,keys⟩ [A]).pc d= .t (wd wReturn)::sp1::(A.pc d++[.t (sy sSc)]):=rfl
   have e2:(Tr.node ⟨17,text,val,keys⟩ [A]).tk=wd wReturn::(A.tk++[sy sSc]):=rfl
   rw[e1,e2];simp[tkP,tkP_append,hX]
  ·obtain⟨A,rfl⟩:=len1 h0
   have e1:(Tr.node ⟨18,text,val,keys⟩ [A]).pc d=A.pc d++[.t (sy sSc)]:=rfl
   have e2:(Tr.node ⟨18,text,val,keys⟩ [A]).tk=A.tk++[sy sSc]:=rfl
   rw[e1,e2];simp[tkP,tkP_append,hX]
  ·obtain⟨A,B,rfl⟩:=len2 h0
   have e1:(Tr.node ⟨9,text,val,keys⟩ [A,B]).pc d=qP A.level (if binL text=4 then 5 else binL text) (A.pc d)++sp1:: .t (Go.Proofs.YtdccglkagfdooaaGreatDoor.tk (opK text) text)::sp1::qP B.level (binL text+1) (B.pc d):=rfl
   have e2:(Tr.node ⟨9,text,val,keys⟩ [A,B]).tk=qT A.level (if binL text=4 then 5 else binL text) A.tk++Go.Proofs.YtdccglkagfdooaaGreatDoor.tk (opK text) text::qT B.level (binL text+1) B.tk:=rfl
   rw[e1,e2];simp[tkP,tkP_append,tkP_qP,hX]
  ·obtain⟨A,B,rfl⟩:=len2 h0
   have e1:(Tr.node ⟨10,text,val,keys⟩ [A,B]).pc d=qP A.level 8 (A.pc d)++ .t (sy sLB)::(B.pc d++[.t (sy sRB)]):=rfl
   have e2:(Tr.node ⟨10,text,val,keys⟩ [A,B]).tk=qT A.level 8 A.tk++sy sLB::(B.tk++[sy sRB]):=rfl
   rw[e1,e2];simp[tkP,tkP_append,tkP_qP,hX]
  ·obtain⟨A,B,rfl⟩:=len2 h0
   have e1:(Tr.node ⟨16,text,val,keys⟩ [A,B]).pc d= .t (wd wWhile)::sp1::(A.pc d++sp1::B.pc d):=rfl
   have e2:(Tr.node ⟨16,text,val,keys⟩ [A,B]).tk=wd wWhile::(A.tk++B.tk):=rfl
   rw[e1,e2];simp[tkP,tkP_append,hX]
  ·obtain⟨A,B,rfl⟩:=len2 h0
   have e1:(Tr.node ⟨15,text,val,keys⟩ [A,B]).pc d= .t (wd wIf)::sp1::(A.pc d++sp1::B.pc d):=rfl
   have e2:(Tr.node ⟨15,text,val,keys⟩ [A,B]).tk=wd wIf::(A.tk++B.tk):=rfl
   rw[e1,e2];simp[tkP,tkP_append,hX]
  ·obtain⟨A,B,C,rfl⟩:=len3 h0
   have e1:(Tr.node ⟨15,text,val,keys⟩ [A,B,C]).pc d= .t (wd wIf)::sp1::(A.pc d++sp1::(B.pc d++sp1:: .t (wd wElse)::sp1::C.pc d)):=rfl
   have e2:(Tr.node ⟨15,text,val,keys⟩ [A,B,C]).tk=wd wIf::(A.tk++B.tk++wd wElse::C.tk):=rfl
   rw[e1,e2];simp[tkP,tkP_append,hX]
  ·have e1:(Tr.node ⟨6,text,val,keys⟩ ts).pc d= .t (sy sLB)::(commaP (Tr.pcl d ts)++[.t (sy sRB)]):=rfl
   have e2:(Tr.node ⟨6,text,val,keys⟩ ts).tk=sy sLB::(commaT (Tr.tkl ts)++[sy sRB]):=rfl
   rw[e1,e2];simp[tkP,tkP_append,tkP_commaP,hl]
  ·have e1:(Tr.node ⟨7,text,val,keys⟩ ts).pc d= .t (sy sLC)::(commaP (keysP keys (Tr.pcl d ts))++[.t (sy sRC)]):=rfl
   have e2:(Tr.node ⟨7,text,val,keys⟩ ts).tk=sy sLC::(commaT (keysT keys (Tr.tkl ts))++[sy sRC]):=rfl
   rw[e1,e2];simp[tkP,tkP_append,tkP_commaP,tkP_keysP,hl]
  ·have e1:(Tr.node ⟨11,text,val,keys⟩ ts).pc d= .t (Go.Proofs.YtdccglkagfdooaaGreatDoor.tk 1 text):: .t (sy sLP)::(commaP (Tr.pcl d ts)++[.t (sy sRP)]):=rfl
   have e2:(Tr.node ⟨11,text,val,keys⟩ ts).tk=Go.Proofs.YtdccglkagfdooaaGreatDoor.tk 1 text::sy sLP::(commaT (Tr.tkl ts)++[sy sRP]):=rfl
   rw[e1,e2];simp[tkP,tkP_append,tkP_commaP,hl]
  ·have e1:(Tr.node ⟨12,text,val,keys⟩ ts).pc d= .t (Go.Proofs.YtdccglkagfdooaaGreatDoor.tk 6 text):: .t (sy sLP)::(commaP (Tr.pcl d ts)++[.t (sy sRP)]):=rfl
   have e2:(Tr.node ⟨12,text,val,keys⟩ ts).tk=Go.Proofs.YtdccglkagfdooaaGreatDoor.tk 6 text::sy sLP::(commaT (Tr.tkl ts)++[sy sRP]):=rfl
   rw[e1,e2];simp[tkP,tkP_append,tkP_commaP,hl]
  ·have e1:(Tr.node ⟨19,text,val,keys⟩ ts).pc d= .t (sy sLC)::(linesP (d+1) (Tr.pcl (d+1) ts)++[nl d,.t (sy sRC)]):=rfl
   have e2:(Tr.node ⟨19,text,val,keys⟩ ts).tk=sy sLC::((Tr.tkl ts).flatten++[sy sRC]):=rfl
   rw[e1,e2];simp[tkP,tkP_tabs_last,tkP_linesP,hl]
theorem parPc_tk:∀ps:List Bs,tkP (parPc ps)=parT ps
 |[]=>rfl
 |[p]=>rfl
 |p::q::l=>by
  have:=parPc_tk (q::l)
  simp only[parPc,tkP,parT] at this⊢
  rw[this]
theorem FnT.pc_tk {F:FnT} (h:FnTOk F):tkP F.pc=F.tk:=by
 simp only[FnT.pc,FnT.tk,tkP,tkP_append,parPc_tk,Tr.pc_tk _ F.body 0 (Nat.le_refl _) h.wf,List.append_nil]
theorem progPc_tk:∀{fs:List FnT},(∀F∈fs,FnTOk F)→tkP (progPc fs)=progT fs
 |[],_=>rfl
 |F::fs,h=>by
  have:=progPc_tk (fs:=fs) fun X hX=>h X (by simp[hX])
  simp only[progPc,progT,List.map_cons,List.flatten_cons,tkP_append] at this⊢
  rw[this,FnT.pc_tk (h F (by simp))]
end Go.Proofs.YtdccglkagfdooaaGreatDoor
