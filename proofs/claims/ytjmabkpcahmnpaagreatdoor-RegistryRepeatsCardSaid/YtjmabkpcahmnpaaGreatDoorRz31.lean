/- Texts joined by pack.py: XSyPI -/
import Derived.Test.YtjmabkpcahmnpaaGreatDoorRz16
namespace Go.Proofs.YtjmabkpcahmnpaaGreatDoor
def GrowP (p:Pars):Prop:=∀{r ns i r1 ns1},p r ns= .ok (i,r1,ns1)→ns1.length+r1.length≤ns.length+r.length
theorem addN_grow {n:Nd} {r r1:List Tok} {ns ns1:List Nd} {i:Int} (h:addN n r ns= .ok (i,r1,ns1)):r1.length=r.length∧ns1.length=ns.length+1:=by
 obtain⟨rfl,rfl,_⟩:=addN_ok h;simp
section
variable {e:Int} {E:Pars} (hE:GrowP E) (hC:EatsP E)
include hE hC
theorem listF_grow {fin:Bs}:∀(f:Nat) {l:List Int} {r:List Tok} {ns:List Nd} {l1:List Int} {r1:List Tok} {ns1:List Nd},listF e fin E f l r ns= .ok (l1,r1,ns1)→ns1.length+r1.length≤ns.length+r.length∧l1.length+r1.length≤l.length+r.length
 |0,l,r,ns,l1,r1,ns1,h=>by cases h
 |f+1,l,r,ns,l1,r1,ns1,h=>by
  simp only[listF] at h
  split at h
  ·cases h
  ·rename_i i r2 ns2 h2
   have h3:=hE h2
   have h4:=(hC h2).lt
   split at h
   ·cases h;simp;omega
   ·split at h
    ·rename_i hc
     have:=listF_grow f h
     have:=(Eats.of_tk hc).lt
     simp at*
     omega
    ·cases h
theorem listP_grow {fin:Bs} {r r1:List Tok} {ns ns1:List Nd} {l:List Int} (h:listP e fin E r ns= .ok (l,r1,ns1)):ns1.length+r1.length≤ns.length+r.length∧l.length+r1.length≤r.length:=by
 unfold listP at h
 split at h
 ·cases h;simp
 ·have:=listF_grow hE hC _ h
  simp at this
  omega
theorem keyF_grow:∀(f:Nat) {ks:List Bs} {l:List Int} {r:List Tok} {ns:List Nd} {i:Int} {r1:List Tok} {ns1:List Nd},keyF e E f ks l r ns= .ok (i,r1,ns1)→ns1.length+r1.length≤ns.length+r.length
 |0,ks,l,r,ns,i,r1,ns1,h=>by have _h:=@hC;cases h
 |f+1,ks,l,r,ns,i,r1,ns1,h=>by
  simp only[keyF] at h
  split at h
  rotate_left
  ·cases h
  rename_i hk
  split at h
  ·cases h
  rename_i r2 h2
  split at h
  ·cases h
  rename_i j r3 ns3 h3
  have g1:=(Eats.of_tail hk.2.1).lt
  have g2:=(mustT_eats h2).lt
  have g3:=hE h3
  split at h
  ·have:=addN_grow h
   simp at*
   omega
  ·split at h
   ·have:=keyF_grow f h
    simp at*
    omega
   ·cases h
theorem keyP_grow {r r1:List Tok} {ns ns1:List Nd} {i:Int} (h:keyP e E r ns= .ok (i,r1,ns1)):ns1.length+r1.length≤ns.length+r.length:=by
 unfold keyP at h
 split at h
 ·rename_i hk
  have:=addN_grow h
  have:=(Eats.of_tk hk).lt
  omega
 ·exact keyF_grow hE hC _ h
theorem primP_grow:GrowP (primP e E):=by
 intro r ns i r1 ns1 h
 unfold primP at h
 cases r with
 |nil=>cases h
 |cons t r=>
  rw[List.length_cons]
  dsimp only at h
  split at h
  ·have:=addN_grow h;omega
  split at h
  ·have:=addN_grow h;omega
  split at h
  ·have:=addN_grow h;omega
  split at h
  ·have:=addN_grow h;omega
  split at h
  ·have:=addN_grow h;omega
  split at h
  ·split at h
   ·rename_i hk
    split at h
    ·cases h
    ·rename_i h2
     have:=addN_grow h
     have:=(listP_grow hE hC h2).1
     have:=(Eats.of_tk hk).lt
     omega
   ·have:=addN_grow h;omega
  split at h
  ·split at h
   ·cases h
   ·rename_i h2
    split at h
    ·cases h
    ·rename_i h3
     have:=addN_grow h
     have:=(listP_grow hE hC h3).1
     have:=(mustT_eats h2).lt
     omega
  split at h
  ·split at h
   ·cases h
   ·rename_i h2
    have:=addN_grow h
    have:=(listP_grow hE hC h2).1
    omega
  split at h
  ·have:=keyP_grow hE hC h;omega
  split at h
  ·split at h
   ·cases h
   ·rename_i h2
    split at h
    ·cases h
    ·rename_i h3
     cases h
     have:=hE h2
     have:=(mustT_eats h3).lt
     omega
  ·cases h
theorem postF_grow:∀(f:Nat) {i:Int} {r:List Tok} {ns:List Nd} {j:Int} {r1:List Tok} {ns1:List Nd},postF e E f i r ns= .ok (j,r1,ns1)→ns1.length+r1.length≤ns.length+r.length
 |0,i,r,ns,j,r1,ns1,h=>by have _h:=@hC;cases h;exact Nat.le_refl _
 |f+1,i,r,ns,j,r1,ns1,h=>by
  simp only[postF] at h
  split at h
  ·rename_i hk
   split at h
   ·cases h
   rename_i h2
   split at h
   ·cases h
   rename_i h3
   have g1:=(Eats.of_tk hk).lt
   have g2:=hE h2
   have g3:=(mustT_eats h3).lt
   have g4:=postF_grow f h
   simp at*
   omega
  ·cases h;exact Nat.le_refl _
theorem postP_grow:GrowP (postP e E):=by
 intro r ns i r1 ns1 h
 unfold postP at h
 split at h
 ·cases h
 ·rename_i h2
  have:=primP_grow hE hC h2
  have:=postF_grow hE hC _ h
  omega
theorem unaryP_grow:GrowP (unaryP e E):=by
 intro r
 induction r with
 |nil=>intro ns i r1 ns1 h;exact postP_grow hE hC h
 |cons t r ih=>
  intro ns i r1 ns1 h
  simp only[unaryP] at h
  split at h
  ·split at h
   ·cases h
   ·rename_i h2
    have:=addN_grow h
    have:=ih h2
    rw[List.length_cons]
    omega
  ·exact postP_grow hE hC h
omit hE hC in
theorem chainF_grow {k:Int} {ops:List Bs} {O:Pars} (hO:GrowP O):∀(f:Nat) {i:Int} {r:List Tok} {ns:List Nd} {j:Int} {r1:List Tok} {ns1:List Nd},chainF k ops O f i r ns= .ok (j,r1,ns1)→ns1.length+r1.length≤ns.length+r.length
 |0,i,r,ns,j,r1,ns1,h=>by cases h;exact Nat.le_refl _
 |f+1,i,r,ns,j,r1,ns1,h=>by
  simp only[chainF] at h
  split at h
  ·rename_i hk
   split at h
   ·cases h
   rename_i h2
   have g1:=(Eats.of_tail hk.2.2).lt
   have g2:=hO h2
   have g3:=chainF_grow hO f h
   simp at*
   omega
  ·cases h;exact Nat.le_refl _
omit hE hC in
theorem chainP_grow {k:Int} {ops:List Bs} {O:Pars} (hO:GrowP O):GrowP (chainP k ops O):=by
 intro r ns i r1 ns1 h
 unfold chainP at h
 split at h
 ·cases h
 ·rename_i h2
  have:=hO h2
  have:=chainF_grow hO _ h
  omega
theorem termP_grow:GrowP (termP e E):=chainP_grow (unaryP_grow hE hC)
theorem sumP_grow:GrowP (sumP e E):=chainP_grow (termP_grow hE hC)
theorem cmpP_grow:GrowP (cmpP e E):=by
 intro r ns i r1 ns1 h
 unfold cmpP at h
 split at h
 ·cases h
 ·rename_i h2
  have g1:=sumP_grow hE hC h2
  split at h
  ·rename_i hk
   split at h
   ·cases h
   ·rename_i h4
    have:=addN_grow h
    have:=sumP_grow hE hC h4
    have:=(Eats.of_tail hk.2.2).lt
    omega
  ·cases h;exact g1
theorem notP_grow:GrowP (notP e E):=by
 intro r
 induction r with
 |nil=>intro ns i r1 ns1 h;exact cmpP_grow hE hC h
 |cons t r ih=>
  intro ns i r1 ns1 h
  simp only[notP] at h
  split at h
  ·split at h
   ·cases h
   ·rename_i h2
    have:=addN_grow h
    have:=ih h2
    rw[List.length_cons]
    omega
  ·exact cmpP_grow hE hC h
theorem andP_grow:GrowP (andP e E):=chainP_grow (notP_grow hE hC)
theorem orP_grow:GrowP (orP e E):=chainP_grow (andP_grow hE hC)
end
theorem exprP_grow {e:Int}:∀f,GrowP (exprP e f)
 |0=>fun h=>by cases h
 |f+1=>orP_grow (exprP_grow f) (exprP_eats f)
theorem valueP_grow {e:Int} {f:Nat} {kind:Int} {text:Bs}:GrowP (valueP e f kind text):=by
 intro r ns i r1 ns1 h
 unfold valueP at h
 split at h
 ·cases h
 ·rename_i h2
  split at h
  ·cases h
  ·rename_i h3
   have:=addN_grow h
   have:=exprP_grow f h2
   have:=(mustT_eats h3).lt
   omega
theorem stmtP_grow {e:Int} {f:Nat} {Bl:Pars} (hB:GrowP Bl):GrowP (stmtP e f Bl):=by
 intro r ns i r1 ns1 h
 unfold stmtP at h
 split at h
 ·rename_i hk
  split at h
  ·cases h
  rename_i h2
  split at h
  ·cases h
  rename_i h3
  have:=(Eats.of_tk hk).lt
  have:=(mustK_eats h2).lt
  have:=(mustT_eats h3).lt
  have:=valueP_grow h
  omega
 split at h
 ·rename_i hk
  split at h
  ·cases h
  rename_i h2
  split at h
  ·cases h
  rename_i h3
  have g1:=(Eats.of_tk hk).lt
  have g2:=exprP_grow f h2
  have g3:=hB h3
  split at h
  ·rename_i hk2
   split at h
   ·cases h
   rename_i h5
   have:=addN_grow h
   have:=(Eats.of_tk hk2).lt
   have:=hB h5
   omega
  ·have:=addN_grow h
   omega
 split at h
 ·rename_i hk
  split at h
  ·cases h
  rename_i h2
  split at h
  ·cases h
  rename_i h3
  have:=(Eats.of_tk hk).lt
  have:=exprP_grow f h2
  have:=hB h3
  have:=addN_grow h
  omega
 split at h
 ·rename_i hk
  have:=(Eats.of_tk hk).lt
  have:=valueP_grow h
  omega
 split at h
 ·have:=valueP_grow h
  simp at this
  omega
 ·exact valueP_grow h
theorem stmtsF_grow {e:Int} {S:Pars} (hS:GrowP S):∀(g:Nat) {l:List Int} {r:List Tok} {ns:List Nd} {i:Int} {r1:List Tok} {ns1:List Nd},stmtsF e S g l r ns= .ok (i,r1,ns1)→ns1.length+r1.length≤ns.length+r.length
 |0,l,r,ns,i,r1,ns1,h=>by cases h
 |g+1,l,r,ns,i,r1,ns1,h=>by
  simp only[stmtsF] at h
  split at h
  ·rename_i hk
   have:=addN_grow h
   have:=(Eats.of_tk hk).lt
   omega
  ·split at h
   ·cases h
   ·rename_i h2
    have:=hS h2
    have:=stmtsF_grow hS g h
    omega
theorem blockP_grow {e:Int}:∀f,GrowP (blockP e f)
 |0=>fun h=>by cases h
 |f+1=>fun h=>by
  simp only[blockP] at h
  split at h
  ·cases h
  ·rename_i h2
   have:=(mustT_eats h2).lt
   have:=stmtsF_grow (stmtP_grow (blockP_grow f)) _ h
   omega
theorem parF_grow {e:Int}:∀(f:Nat) {l:List Bs} {r:List Tok} {l1:List Bs} {r1:List Tok},parF e f l r= .ok (l1,r1)→l1.length+r1.length≤l.length+r.length
 |0,l,r,l1,r1,h=>by cases h
 |f+1,l,r,l1,r1,h=>by
  simp only[parF] at h
  split at h
  ·cases h
  ·rename_i h2
   have g1:=(mustK_eats h2).lt
   split at h
   ·rename_i hk
    have:=(Eats.of_tk hk).lt
    cases h
    simp at*
    omega
   ·split at h
    ·rename_i hk
     have:=(Eats.of_tk hk).lt
     have:=parF_grow f h
     simp at*
     omega
    ·cases h
theorem funcP_grow {e:Int} {f:Nat} {r:List Tok} {ns:List Nd} {x:Fc} {r1:List Tok} {ns1:List Nd} (h:funcP e f r ns= .ok (x,r1,ns1)):ns1.length+r1.length≤ns.length+r.length:=by
 unfold funcP at h
 split at h
 ·cases h
 rename_i h1
 split at h
 ·cases h
 rename_i h2
 split at h
 ·cases h
 rename_i h3
 split at h
 ·cases h
 rename_i h4
 split at h
 ·cases h
 rename_i h5
 cases h
 have:=(mustT_eats h1).lt
 have:=(mustK_eats h2).lt
 have:=(mustT_eats h3).lt
 have:=(parP_eats h4).lt
 have:=blockP_grow f h5
 omega
end Go.Proofs.YtjmabkpcahmnpaaGreatDoor
