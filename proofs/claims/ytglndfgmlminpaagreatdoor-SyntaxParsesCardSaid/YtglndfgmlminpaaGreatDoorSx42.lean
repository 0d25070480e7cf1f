/- Texts joined by pack.py: XSyZ0 XSyZ1 -/
import Derived.Test.YtglndfgmlminpaaGreatDoorSx23
import Derived.Test.YtglndfgmlminpaaGreatDoorSx26
namespace Go.Proofs.YtglndfgmlminpaaGreatDoor
structure Rs where
 k:Nat
 ns:List Nd
 fl:Int
abbrev RdF (α:Type):=Rs→α×Rs
section
variable (l:List Tok) (e:Int)
abbrev rAdv (s:Rs):Rs:=⟨s.k+1,s.ns,s.fl⟩
def rBad (s:Rs):Rs:=if 0≤s.fl then s else⟨s.k,s.ns,offT e (l.drop s.k)⟩
def rTake (x:Bs) (s:Rs):Rs:=if isSym x (l.drop s.k)=true then rAdv s else rBad l e s
def rName (s:Rs):Bs×Rs:=if pKind (l.drop s.k)=1 then(pText (l.drop s.k),rAdv s) else([],rBad l e s)
def rAdd (n:Nd) (s:Rs):Int×Rs:=((s.ns.length:Int),⟨s.k,s.ns++[n],s.fl⟩)
def rdVal:List Tok→Int
 |t::_=>t.val
 |[]=>0
def tst (K:Int) (ops:List Bs) (r:List Tok):Bool:=decide (pKind r=K)&&ops.contains (pText r)&& !r.isEmpty
def chainR (K:Int) (ops:List Bs) (O:RdF Int):Nat→Int→RdF Int
 |0,i,s=>(i,s)
 |f+1,i,s=>if s.fl<0∧tst K ops (l.drop s.k)=true then
   chainR K ops O f (((O (rAdv s)).2.ns.length:Nat):Int) (rAdd (ndM 9 (pText (l.drop s.k)) 0 [i,(O (rAdv s)).1]) (O (rAdv s)).2).2
  else(i,s)
def chainG (K:Int) (ops:List Bs) (O:RdF Int):RdF Int:=fun s=>chainR l K ops O (l.length - (O s).2.k) (O s).1 (O s).2
def listR (fin:Bs) (E:RdF Int):Nat→List Int→RdF (List Int)
 |0,js,s=>(js,s)
 |f+1,js,s=>if s.fl<0 then
   (if(E s).2.fl<0∧isSym fin (l.drop (E s).2.k)=true then(js++[(E s).1],rAdv (E s).2)
   else listR fin E f (js++[(E s).1]) (if(E s).2.fl<0 then rTake l e sCm (E s).2 else(E s).2))
  else(js,s)
def listG (fin:Bs) (E:RdF Int):RdF (List Int):=fun s=>if isSym fin (l.drop s.k)=true then([],rAdv s) else listR l e fin E (l.length+1 - s.k) [] s
def keyV (E:RdF Int) (js:List Int) (s:Rs):List Int×Rs:=if s.fl<0 then(js++[(E s).1],(E s).2) else(js,s)
def keyR (E:RdF Int):Nat→List Bs→List Int→RdF Int
 |0,_,_,s=>(0,s)
 |f+1,ks,js,s=>if s.fl<0 then
   (if pKind (l.drop s.k)=4∧(ks=[]∨Op.bytesLess (ks.getLastD []) (pText (l.drop s.k))=true) then
    (let x:=keyV E js (rTake l e sCl (rAdv s))
    if x.2.fl<0∧isSym sRC (l.drop x.2.k)=true then rAdd ⟨7,[],0,ks++[pText (l.drop s.k)],x.1⟩ (rAdv x.2)
    else keyR E f (ks++[pText (l.drop s.k)]) x.1 (if x.2.fl<0 then rTake l e sCm x.2 else x.2))
   else(0,rBad l e s))
  else(0,s)
def keyG (E:RdF Int):RdF Int:=fun s=>if isSym sRC (l.drop s.k)=true then rAdd ⟨7,[],0,[],[]⟩ (rAdv s) else keyR l e E (l.length+1 - s.k) [] [] s
def callR (E:RdF Int):RdF Int:=fun s=>
 let x:=rName l e s
 if isSym sLP (l.drop x.2.k)=true then rAdd (ndM 11 x.1 0 (listG l e sRP E (rAdv x.2)).1) (listG l e sRP E (rAdv x.2)).2
 else rAdd (ndM 5 x.1 0 []) x.2
def hostR (E:RdF Int):RdF Int:=fun s=>
 let s1:=rTake l e sLP (rAdv s)
 if s1.fl<0 then rAdd (ndM 12 (pText (l.drop s.k)) 0 (listG l e sRP E s1).1) (listG l e sRP E s1).2 else(0,s1)
def primR (E:RdF Int):RdF Int:=fun s=>
 let r:=l.drop s.k
 if pKind r=3 then rAdd (ndM 3 [] (rdVal r) []) (rAdv s)
 else if pKind r=4 then rAdd (ndM 4 (pText r) 0 []) (rAdv s)
 else if isWrd wNull r=true then rAdd (ndM 1 [] 0 []) (rAdv s)
 else if isWrd wTrue r=true then rAdd (ndM 2 [] 1 []) (rAdv s)
 else if isWrd wFalse r=true then rAdd (ndM 2 [] 0 []) (rAdv s)
 else if pKind r=1 then callR l e E s
 else if pKind r=6 then hostR l e E s
 else if isSym sLB r=true then rAdd (ndM 6 [] 0 (listG l e sRB E (rAdv s)).1) (listG l e sRB E (rAdv s)).2
 else if isSym sLC r=true then keyG l e E (rAdv s)
 else if isSym sLP r=true then((E (rAdv s)).1,rTake l e sRP (E (rAdv s)).2)
 else(0,rBad l e s)
def postR (E:RdF Int):Nat→Int→RdF Int
 |0,i,s=>(i,s)
 |f+1,i,s=>if s.fl<0∧isSym sLB (l.drop s.k)=true then
   (let s1:=rTake l e sRB (E (rAdv s)).2
   postR E f ((s1.ns.length:Nat):Int) (rAdd (ndM 10 [] 0 [i,(E (rAdv s)).1]) s1).2)
  else(i,s)
def postG (E:RdF Int):RdF Int:=fun s=>postR l e E (l.length - (primR l e E s).2.k) (primR l e E s).1 (primR l e E s).2
def unaryR (E:RdF Int):Nat→RdF Int
 |0=>postG l e E
 |f+1=>fun s=>if isSym sMi (l.drop s.k)=true then rAdd (ndM 8 sMi 0 [(unaryR E f (rAdv s)).1]) (unaryR E f (rAdv s)).2 else postG l e E s
def unaryG (E:RdF Int):RdF Int:=fun s=>unaryR l e E (l.length - s.k) s
def sumG (E:RdF Int):RdF Int:=chainG l 5 opAdd (chainG l 5 opMul (unaryG l e E))
def cmpG (E:RdF Int):RdF Int:=fun s=>
 let x:=sumG l e E s
 if x.2.fl<0∧tst 5 opCmp (l.drop x.2.k)=true then rAdd (ndM 9 (pText (l.drop x.2.k)) 0 [x.1,(sumG l e E (rAdv x.2)).1]) (sumG l e E (rAdv x.2)).2
 else x
def notR (E:RdF Int):Nat→RdF Int
 |0=>cmpG l e E
 |f+1=>fun s=>if isWrd wNot (l.drop s.k)=true then rAdd (ndM 8 wNot 0 [(notR E f (rAdv s)).1]) (notR E f (rAdv s)).2 else cmpG l e E s
def notG (E:RdF Int):RdF Int:=fun s=>notR l e E (l.length - s.k) s
def orG (E:RdF Int):RdF Int:=chainG l 2 [wOr] (chainG l 2 [wAnd] (notG l e E))
def exprR:Nat→RdF Int
 |0=>fun s=>(0,s)
 |f+1=>orG l e (exprR f)
def asgR (X:RdF Int) (kd:Int) (t:Bs):RdF Int:=fun s=>
 let s1:=rTake l e sEq1 s
 if s1.fl<0 then rAdd (ndM kd t 0 [(X s1).1]) (rTake l e sSc (X s1).2) else(0,s1)
def ifR (X Bl:RdF Int):RdF Int:=fun s=>
 let c:=X s
 if c.2.fl<0 then
  (let b:=Bl c.2
  if b.2.fl<0∧isWrd wElse (l.drop b.2.k)=true then rAdd (ndM 15 [] 0 [c.1,b.1,(Bl (rAdv b.2)).1]) (Bl (rAdv b.2)).2
  else rAdd (ndM 15 [] 0 [c.1,b.1]) b.2)
 else(0,c.2)
def whileR (X Bl:RdF Int):RdF Int:=fun s=>
 let c:=X s
 if c.2.fl<0 then rAdd (ndM 16 [] 0 [c.1,(Bl c.2).1]) (Bl c.2).2 else(0,c.2)
def doR (X:RdF Int) (kd:Int):RdF Int:=fun s=>rAdd (ndM kd [] 0 [(X s).1]) (rTake l e sSc (X s).2)
def stmtR (X Bl:RdF Int):RdF Int:=fun s=>
 let r:=l.drop s.k
 if isWrd wLet r=true then
  (let x:=rName l e (rAdv s)
  if x.2.fl<0 then asgR l e X 13 x.1 x.2 else(0,x.2))
 else if isWrd wIf r=true then ifR l X Bl (rAdv s)
 else if isWrd wWhile r=true then whileR X Bl (rAdv s)
 else if assigns r=true then asgR l e X 14 (pText r) (rAdv s)
 else if isWrd wReturn r=true then doR l e X 17 (rAdv s)
 else doR l e X 18 s
def stmtsR (S:RdF Int):Nat→List Int→RdF (List Int)
 |0,js,s=>(js,s)
 |f+1,js,s=>if s.fl<0∧isSym sRC (l.drop s.k)=false then stmtsR S f (js++[(S s).1]) (S s).2 else(js,s)
def blockG (S:RdF Int):RdF Int:=fun s=>
 let x:=stmtsR l S (l.length+1 - (rTake l e sLC s).k) [] (rTake l e sLC s)
 rAdd (ndM 19 [] 0 x.1) (rTake l e sRC x.2)
def blockR:Nat→RdF Int
 |0=>fun s=>(0,s)
 |f+1=>blockG l e (stmtR l e (exprR l e (f+1)) (blockR f))
def parR:Nat→List Bs→RdF (List Bs)
 |0,ps,s=>(ps,s)
 |f+1,ps,s=>if s.fl<0 then
   (let x:=rName l e s
   if x.2.fl<0∧isSym sRP (l.drop x.2.k)=true then(ps++[x.1],rAdv x.2)
   else parR f (ps++[x.1]) (if x.2.fl<0 then rTake l e sCm x.2 else x.2))
  else(ps,s)
def parG:RdF (List Bs):=fun s=>if s.fl<0∧isSym sRP (l.drop s.k)=true then([],rAdv s) else parR l e (l.length+1 - s.k) [] s
def funcR (B:RdF Int):RdF Fc:=fun s=>
 if isWrd wFunc (l.drop s.k)=true then
  (let x:=rName l e (rAdv s)
  let y:=parG l e (rTake l e sLP x.2)
  if y.2.fl<0 then(⟨x.1,y.1,(B y.2).1⟩,(B y.2).2) else(⟨x.1,y.1,0⟩,y.2))
 else(⟨[],[],0⟩,rBad l e s)
def progR (B:RdF Int):Nat→List Fc→RdF (List Fc)
 |0,fs,s=>(fs,s)
 |f+1,fs,s=>if s.fl<0∧s.k<l.length then progR B f (fs++[(funcR l e B s).1]) (funcR l e B s).2 else(fs,s)
end
section
variable {l:List Tok} {e:Int}
def Fin {α:Type} (l:List Tok) (c:Nat) (s:Rs) (out:PRes α) (x:α×Rs):Prop:=match out with
 | .ok (i,r1,ns1)=>∃k1,s.k<k1∧k1≤l.length∧r1=l.drop k1∧ns1.length+s.k≤s.ns.length+k1∧x=(i,⟨k1,ns1,-1⟩)
 | .error o=>0≤o∧s.k≤x.2.k∧x.2.k≤l.length∧x.2.ns.length+2*s.k≤s.ns.length+2*x.2.k+c∧x.2.fl=o
def GoodR (l:List Tok) (c f:Nat) (F:RdF Int) (P:Pars):Prop:=∀s:Rs,s.fl= -1→s.k≤l.length→l.length<s.k+f→Fin l c s (P (l.drop s.k) s.ns) (F s)
theorem tk_lt {K:Int} {x:Bs} {k:Nat} (h:isTk K x (l.drop k)=true):k<l.length:=by
 rcases Nat.lt_or_ge k l.length with h1|h1
 ·exact h1
 ·rw[List.drop_eq_nil_of_le h1] at h;cases h
theorem ne_lt {k:Nat} (h:l.drop k≠[]):k<l.length:=by
 rcases Nat.lt_or_ge k l.length with h1|h1
 ·exact h1
 ·exact absurd (List.drop_eq_nil_of_le h1) h
theorem drop_ne {k:Nat} (h:k<l.length):l.drop k≠[]:=by
 intro h1;have:=congrArg List.length h1;simp at this;omega
theorem kind_lt {K:Int} {k:Nat} (h:pKind (l.drop k)=K) (hK:K≠0):k<l.length:=by
 refine ne_lt fun h1=>hK ?_
 rw[←h,h1];rfl
theorem rTake_y {x:Bs} {s:Rs} (h:isSym x (l.drop s.k)=true):rTake l e x s=rAdv s:=by unfold rTake;rw[if_pos h]
theorem rTake_n {x:Bs} {s:Rs} (h:isSym x (l.drop s.k)=false) (hf:s.fl= -1):rTake l e x s=⟨s.k,s.ns,offT e (l.drop s.k)⟩:=by
 unfold rTake rBad;rw[if_neg (by rw[h];simp),if_neg (by omega)]
theorem rBad_n {s:Rs} (hf:s.fl= -1):rBad l e s=⟨s.k,s.ns,offT e (l.drop s.k)⟩:=by unfold rBad;rw[if_neg (by omega)]
theorem rTake_f {x:Bs} {s:Rs} (hf:0≤s.fl) (hk:s.k≤l.length):s.k≤(rTake l e x s).k∧(rTake l e x s).k≤l.length∧(rTake l e x s).ns=s.ns∧(rTake l e x s).fl=s.fl:=by
 unfold rTake
 split
 ·rename_i h;have:=tk_lt h;exact⟨Nat.le_succ _,this,rfl,rfl⟩
 ·unfold rBad;rw[if_pos hf];exact⟨Nat.le_refl _,hk,rfl,rfl⟩
theorem tst_iff {K:Int} {ops:List Bs} {r:List Tok}:tst K ops r=true↔pKind r=K∧ops.contains (pText r)=true∧r≠[]:=by
 unfold tst;simp[and_assoc]
theorem chainR_f {K:Int} {ops:List Bs} {O:RdF Int} (f:Nat) (i:Int) {s:Rs} (h:0≤s.fl):chainR l K ops O f i s=(i,s):=by
 cases f with
 |zero=>rfl
 |succ f=>unfold chainR;rw[if_neg (fun h1=>by omega)]
theorem listR_f {fin:Bs} {E:RdF Int} (f:Nat) (js:List Int) {s:Rs} (h:0≤s.fl):listR l e fin E f js s=(js,s):=by
 cases f with
 |zero=>rfl
 |succ f=>unfold listR;rw[if_neg (by omega)]
theorem keyR_f {E:RdF Int} (f:Nat) (ks:List Bs) (js:List Int) {s:Rs} (h:0≤s.fl):keyR l e E f ks js s=(0,s):=by
 cases f with
 |zero=>rfl
 |succ f=>unfold keyR;rw[if_neg (by omega)]
theorem postR_f {E:RdF Int} (f:Nat) (i:Int) {s:Rs} (h:0≤s.fl):postR l e E f i s=(i,s):=by
 cases f with
 |zero=>rfl
 |succ f=>unfold postR;rw[if_neg (fun h1=>by omega)]
theorem stmtsR_f {S:RdF Int} (f:Nat) (js:List Int) {s:Rs} (h:0≤s.fl):stmtsR l S f js s=(js,s):=by
 cases f with
 |zero=>rfl
 |succ f=>unfold stmtsR;rw[if_neg (fun h1=>by omega)]
theorem parR_f (f:Nat) (ps:List Bs) {s:Rs} (h:0≤s.fl):parR l e f ps s=(ps,s):=by
 cases f with
 |zero=>rfl
 |succ f=>unfold parR;rw[if_neg (by omega)]
theorem eta_s {s:Rs} (h:s.fl= -1):s=⟨s.k,s.ns,-1⟩:=by obtain⟨a,b,c⟩:=s;cases h;rfl
variable (ho:∀k,0≤offT e (l.drop k))
theorem chain_fin {K:Int} {ops:List Bs} {O:RdF Int} {P:Pars} {F:Nat} (hO:GoodR l 0 F O P) {s0:Rs}:∀(f:Nat) (i:Int) (s:Rs),s.fl= -1→s0.k<s.k→s.k≤l.length→l.length<s.k+F→s.ns.length+s0.k≤s0.ns.length+s.k→Fin l 0 s0 (chainF K ops P f i (l.drop s.k) s.ns) (chainR l K ops O f i s)
 |0,i,s,h1,h2,h3,h4,h5=>⟨s.k,h2,h3,rfl,h5,by rw[chainR,←eta_s h1]⟩
 |f+1,i,s,h1,h2,h3,h4,h5=>by
  unfold chainF chainR
  by_cases ht:tst K ops (l.drop s.k)=true
  ·rw[if_pos (tst_iff.1 ht),if_pos ⟨by omega,ht⟩,List.tail_drop]
   have hk:=ne_lt (tst_iff.1 ht).2.2
   have hg:=hO (rAdv s) h1 hk (by dsimp only;omega)
   dsimp only at hg
   cases hP:P (l.drop (s.k+1)) s.ns with
   |error o=>
    rw[hP] at hg
    obtain⟨g1,g2,g3,g4,g5⟩:=hg
    dsimp only at g2 g4
    rw[chainR_f f _ (by dsimp only[rAdd];omega)]
    exact⟨g1,by dsimp only[rAdd];omega,g3,by simp only[rAdd,List.length_append,List.length_singleton];omega,g5⟩
   |ok q=>
    obtain⟨j,r1,ns1⟩:=q
    rw[hP] at hg
    obtain⟨k1,g1,g2,rfl,g4,g5⟩:=hg
    dsimp only at g1 g4
    rw[g5]
    exact chain_fin hO f _ ⟨k1,ns1++[ndM 9 (pText (l.drop s.k)) 0 [i,j]],-1⟩ rfl (by dsimp only;omega) g2 (by dsimp only;omega) (by simp only[List.length_append,List.length_singleton];omega)
  ·rw[if_neg (fun h=>ht (tst_iff.2 h)),if_neg (fun h=>ht h.2)]
   exact⟨s.k,h2,h3,rfl,h5,by rw[←eta_s h1]⟩
theorem chainG_good {K:Int} {ops:List Bs} {O:RdF Int} {P:Pars} {F:Nat} (hO:GoodR l 0 F O P):GoodR l 0 F (chainG l K ops O) (chainP K ops P):=by
 intro s h1 h2 h3
 have hg:=hO s h1 h2 h3
 unfold chainG chainP
 cases hP:P (l.drop s.k) s.ns with
 |error o=>
  rw[hP] at hg
  obtain⟨g1,g2,g3,g4,g5⟩:=hg
  rw[chainR_f _ _ (by omega)]
  exact⟨g1,g2,g3,g4,g5⟩
 |ok q=>
  obtain⟨j,r1,ns1⟩:=q
  rw[hP] at hg
  obtain⟨k1,g1,g2,rfl,g4,g5⟩:=hg
  rw[g5]
  dsimp only
  rw[List.length_drop]
  exact chain_fin hO _ j ⟨k1,ns1,-1⟩ rfl g1 g2 (by dsimp only;omega) g4
end
end Go.Proofs.YtglndfgmlminpaaGreatDoor
namespace Go.Proofs.YtglndfgmlminpaaGreatDoor
def GoodL (l:List Tok) (f:Nat) (F:RdF (List Int)) (P:List Tok→List Nd→PRes (List Int)):Prop:=∀s:Rs,s.fl= -1→s.k≤l.length→l.length<s.k+f→Fin l 0 s (P (l.drop s.k) s.ns) (F s)
section
variable {l:List Tok} {e:Int} {F:Nat}
theorem P_nil {P:Pars} (hA:AtP e P) (hE:EatsP P) (ns:List Nd):P [] ns= .error e:=by
 cases h:P [] ns with
 |ok r=>
  obtain⟨i,r1,ns1⟩:=r
  have:=(hE h).lt
  simp at this
 |error o=>
  rcases hA h with h|⟨t,h,_⟩
  ·rw[h]
  ·cases h
theorem Fin.err {α:Type} {c:Nat} {s:Rs} {o:Int} {x:α×Rs} (h:Fin l c s (.error o) x):0≤o∧s.k≤x.2.k∧x.2.k≤l.length∧x.2.ns.length+2*s.k≤s.ns.length+2*x.2.k+c∧x.2.fl=o:=h
theorem Fin.ok {α:Type} {c:Nat} {s:Rs} {i:α} {r1:List Tok} {ns1:List Nd} {x:α×Rs} (h:Fin l c s (.ok (i,r1,ns1)) x):∃k1,s.k<k1∧k1≤l.length∧r1=l.drop k1∧ns1.length+s.k≤s.ns.length+k1∧x=(i,⟨k1,ns1,-1⟩):=h
variable (ho:∀k,0≤offT e (l.drop k))
include ho
theorem list_fin {fin:Bs} {E:RdF Int} {P:Pars} (hO:GoodR l 0 F E P) (hA:AtP e P) (hE:EatsP P) {s0:Rs}:∀(f:Nat) (js:List Int) (s:Rs),s.fl= -1→s0.k≤s.k→s.k≤l.length→l.length<s.k+F→l.length≤s.k+f→s.ns.length+s0.k≤s0.ns.length+s.k→
  Fin l 0 s0 (listF e fin P f js (l.drop s.k) s.ns) (listR l e fin E (f+1) js s)
 |0,js,s,h1,h2,h3,h4,h5,h6=>by
  have hg:=hO s h1 h3 h4
  have hn:l.drop s.k=[]:=List.drop_eq_nil_of_le (by omega)
  rw[hn,P_nil hA hE s.ns] at hg
  obtain⟨g1,g2,g3,g4,g5⟩:=hg.err
  unfold listF listR
  rw[if_pos (by omega),if_neg (fun h=>by omega),if_neg (by omega),hn]
  exact⟨g1,by dsimp only[listR];omega,g3,by dsimp only[listR];omega,g5⟩
 |f+1,js,s,h1,h2,h3,h4,h5,h6=>by
  have hg:=hO s h1 h3 h4
  unfold listF listR
  rw[if_pos (by omega)]
  cases hP:P (l.drop s.k) s.ns with
  |error o=>
   rw[hP] at hg
   obtain⟨g1,g2,g3,g4,g5⟩:=hg.err
   rw[if_neg (fun h=>by omega),if_neg (by omega),listR_f _ _ (by omega)]
   exact⟨g1,by(try dsimp only);omega,g3,by(try dsimp only);omega,g5⟩
  |ok q=>
   obtain⟨j,r1,ns1⟩:=q
   rw[hP] at hg
   obtain⟨k1,g1,g2,rfl,g4,g5⟩:=hg.ok
   rw[g5]
   dsimp only
   by_cases hf:isSym fin (l.drop k1)=true
   ·rw[if_pos hf,if_pos (show(-1:Int)<0∧isSym fin (l.drop k1)=true from⟨by decide,hf⟩)]
    have:=tk_lt hf
    exact⟨k1+1,by omega,this,List.tail_drop,by omega,rfl⟩
   rw[if_neg hf,if_neg (show¬((-1:Int)<0∧isSym fin (l.drop k1)=true) from fun h=>hf h.2),if_pos (show(-1:Int)<0 by decide)]
   by_cases hc:isSym sCm (l.drop k1)=true
   ·rw[if_pos hc,rTake_y (s:=⟨k1,ns1,-1⟩) hc,List.tail_drop]
    have:=tk_lt hc
    exact list_fin hO hA hE f (js++[j]) ⟨k1+1,ns1,-1⟩ rfl (by(try dsimp only);omega) this (by(try dsimp only);omega) (by(try dsimp only);omega) (by(try dsimp only);omega)
   ·have hc:isSym sCm (l.drop k1)=false:=by simpa using hc
    rw[if_neg (by rw[hc];simp),rTake_n (s:=⟨k1,ns1,-1⟩) hc rfl,listR_f _ _ (ho _)]
    exact⟨ho _,by(try dsimp only);omega,g2,by(try dsimp only);omega,rfl⟩
theorem listG_good {fin:Bs} {E:RdF Int} {P:Pars} (hO:GoodR l 0 F E P) (hA:AtP e P) (hE:EatsP P):GoodL l F (listG l e fin E) (listP e fin P):=by
 intro s h1 h2 h3
 unfold listG listP
 by_cases hf:isSym fin (l.drop s.k)=true
 ·rw[if_pos hf,if_pos hf]
  have:=tk_lt hf
  exact⟨s.k+1,by omega,this,List.tail_drop,by omega,by rw[rAdv,h1]⟩
 ·rw[if_neg hf,if_neg hf,List.length_drop,show l.length+1 - s.k=(l.length - s.k)+1 by omega]
  exact list_fin ho hO hA hE _ [] s h1 (Nat.le_refl _) h2 h3 (by omega) (by omega)
theorem key_fin {E:RdF Int} {P:Pars} (hO:GoodR l 0 F E P) {s0:Rs}:∀(f:Nat) (ks:List Bs) (js:List Int) (s:Rs),s.fl= -1→s0.k≤s.k→s.k≤l.length→l.length<s.k+F→l.length≤s.k+f→s.ns.length+s0.k≤s0.ns.length+s.k→
  Fin l 0 s0 (keyF e P f ks js (l.drop s.k) s.ns) (keyR l e E (f+1) ks js s)
 |0,ks,js,s,h1,h2,h3,h4,h5,h6=>by
  have hn:l.drop s.k=[]:=List.drop_eq_nil_of_le (by omega)
  unfold keyF keyR
  rw[if_pos (by omega),if_neg (by rw[hn];intro h;exact absurd h.1 (by decide)),rBad_n h1]
  exact⟨ho _,by(try dsimp only);omega,h3,by(try dsimp only);omega,rfl⟩
 |f+1,ks,js,s,h1,h2,h3,h4,h5,h6=>by
  unfold keyF keyR
  rw[if_pos (show s.fl<0 by omega)]
  by_cases hk:pKind (l.drop s.k)=4∧(ks=[]∨Op.bytesLess (ks.getLastD []) (pText (l.drop s.k))=true)
  rotate_left
  ·rw[if_neg hk,if_neg (show¬(pKind (l.drop s.k)=4∧l.drop s.k≠[]∧(ks=[]∨Op.bytesLess (ks.getLastD []) (pText (l.drop s.k))=true)) from fun h=>hk ⟨h.1,h.2.2⟩),rBad_n h1]
   exact⟨ho _,by(try dsimp only);omega,h3,by(try dsimp only);omega,rfl⟩
  have hlt:=kind_lt hk.1 (by decide)
  rw[if_pos hk,if_pos (show pKind (l.drop s.k)=4∧l.drop s.k≠[]∧(ks=[]∨Op.bytesLess (ks.getLastD []) (pText (l.drop s.k))=true) from⟨hk.1,drop_ne hlt,hk.2⟩),List.tail_drop]
  unfold mustT
  by_cases hc:isSym sCl (l.drop (s.k+1))=true
  rotate_left
  ·have hc:isSym sCl (l.drop (s.k+1))=false:=by simpa using hc
   have hh:=ho (s.k+1)
   rw[if_neg (show¬isTk 5 sCl (l.drop (s.k+1))=true by rw[show isTk 5 sCl (l.drop (s.k+1))=false from hc];simp),rTake_n (s:=rAdv s) hc h1]
   have hz:keyV E js ⟨(rAdv s).k,(rAdv s).ns,offT e (l.drop (rAdv s).k)⟩=(js,⟨s.k+1,s.ns,offT e (l.drop (s.k+1))⟩):=by
    unfold keyV
    rw[if_neg (show¬offT e (l.drop (s.k+1))<0 by omega)]
   rw[hz]
   dsimp only
   rw[if_neg (show¬(offT e (l.drop (s.k+1))<0∧_) from fun h=>by omega),if_neg (show¬(offT e (l.drop (s.k+1))<0) by omega),keyR_f _ _ _ hh]
   exact⟨hh,by(try dsimp only);omega,hlt,by(try dsimp only);omega,rfl⟩
  rw[if_pos (show isTk 5 sCl (l.drop (s.k+1))=true from hc),rTake_y (s:=rAdv s) hc,List.tail_drop]
  have hlt2:=tk_lt hc
  have hg:=hO (rAdv (rAdv s)) h1 hlt2 (by(try dsimp only);omega)
  dsimp only at hg
  have hz:keyV E js (rAdv (rAdv s))=(js++[(E (rAdv (rAdv s))).1],(E (rAdv (rAdv s))).2):=by
   unfold keyV
   rw[if_pos (show s.fl<0 by omega)]
  rw[hz]
  dsimp only
  cases hP:P (l.drop (s.k+1+1)) s.ns with
  |error o=>
   rw[hP] at hg
   obtain⟨g1,g2,g3,g4,g5⟩:=hg.err
   dsimp only at g2 g4
   rw[if_neg (fun h=>by omega),if_neg (by omega),keyR_f _ _ _ (by omega)]
   exact⟨g1,by(try dsimp only);omega,g3,by(try dsimp only);omega,g5⟩
  |ok q=>
   obtain⟨j,r2,ns2⟩:=q
   rw[hP] at hg
   obtain⟨k1,g1,g2,rfl,g4,g5⟩:=hg.ok
   dsimp only at g1 g4
   rw[g5]
   dsimp only
   by_cases hf:isSym sRC (l.drop k1)=true
   ·rw[if_pos hf,if_pos (show(-1:Int)<0∧isSym sRC (l.drop k1)=true from⟨by decide,hf⟩),List.tail_drop]
    have:=tk_lt hf
    exact⟨k1+1,by omega,this,rfl,by simp only[List.length_append,List.length_singleton];omega,rfl⟩
   rw[if_neg hf,if_neg (show¬((-1:Int)<0∧isSym sRC (l.drop k1)=true) from fun h=>hf h.2),if_pos (show(-1:Int)<0 by decide)]
   by_cases hm:isSym sCm (l.drop k1)=true
   ·rw[if_pos hm,rTake_y (s:=⟨k1,ns2,-1⟩) hm,List.tail_drop]
    have:=tk_lt hm
    exact key_fin hO f _ _ ⟨k1+1,ns2,-1⟩ rfl (by(try dsimp only);omega) this (by(try dsimp only);omega) (by(try dsimp only);omega) (by(try dsimp only);omega)
   ·have hm:isSym sCm (l.drop k1)=false:=by simpa using hm
    rw[if_neg (by rw[hm];simp),rTake_n (s:=⟨k1,ns2,-1⟩) hm rfl,keyR_f _ _ _ (ho _)]
    exact⟨ho _,by(try dsimp only);omega,g2,by(try dsimp only);omega,rfl⟩
theorem keyG_good {E:RdF Int} {P:Pars} (hO:GoodR l 0 F E P):GoodR l 0 F (keyG l e E) (keyP e P):=by
 intro s h1 h2 h3
 unfold keyG keyP
 by_cases hf:isSym sRC (l.drop s.k)=true
 ·rw[if_pos hf,if_pos hf,List.tail_drop]
  have:=tk_lt hf
  exact⟨s.k+1,by omega,this,rfl,by simp only[List.length_append,List.length_singleton];omega,by rw[rAdv,rAdd,h1]⟩
 ·rw[if_neg hf,if_neg hf,List.length_drop,show l.length+1 - s.k=(l.length - s.k)+1 by omega]
  exact key_fin ho hO _ [] [] s h1 (Nat.le_refl _) h2 h3 (by omega) (by omega)
omit ho in
theorem fin_add {n:Nd} {s:Rs} {k1:Nat} {ns1:List Nd} (h1:s.k<k1) (h2:k1≤l.length) (h3:ns1.length+1+s.k≤s.ns.length+k1):Fin l 0 s (addN n (l.drop k1) ns1) (rAdd n ⟨k1,ns1,-1⟩):=
 ⟨k1,h1,h2,rfl,by simp only[List.length_append,List.length_singleton];omega,rfl⟩
omit ho in
theorem fin_addE {c:Nat} {s:Rs} {o:Int} {x:Rs} {n:Nd} (h1:0≤o) (h2:s.k≤x.k) (h3:x.k≤l.length) (h4:x.ns.length+1+2*s.k≤s.ns.length+2*x.k+c) (h5:x.fl=o):Fin l c s (.error o:PRes Int) (rAdd n x):=
 ⟨h1,h2,h3,by simp only[rAdd,List.length_append,List.length_singleton];omega,h5⟩
omit ho in
theorem dropE1 {k:Nat} (h:k<l.length):l.drop k=l[k]::l.drop (k+1):=List.drop_eq_getElem_cons h
theorem listG_at {fin:Bs} {E:RdF Int} {P:Pars} (hO:GoodR l 0 F E P) (hA:AtP e P) (hE:EatsP P) {k:Nat} {ns:List Nd} (h1:k≤l.length) (h2:l.length<k+F):Fin l 0 ⟨k,ns,-1⟩ (listP e fin P (l.drop k) ns) (listG l e fin E ⟨k,ns,-1⟩):=listG_good ho hO hA hE ⟨k,ns,-1⟩ rfl h1 h2
theorem keyG_at {E:RdF Int} {P:Pars} (hO:GoodR l 0 F E P) {k:Nat} {ns:List Nd} (h1:k≤l.length) (h2:l.length<k+F):Fin l 0 ⟨k,ns,-1⟩ (keyP e P (l.drop k) ns) (keyG l e E ⟨k,ns,-1⟩):=keyG_good ho hO ⟨k,ns,-1⟩ rfl h1 h2
omit ho in
theorem GoodR.at {c:Nat} {E:RdF Int} {P:Pars} (hO:GoodR l c F E P) {k:Nat} {ns:List Nd} (h1:k≤l.length) (h2:l.length<k+F):Fin l c ⟨k,ns,-1⟩ (P (l.drop k) ns) (E ⟨k,ns,-1⟩):=hO ⟨k,ns,-1⟩ rfl h1 h2
theorem primG_good {E:RdF Int} {P:Pars} (hO:GoodR l 0 F E P) (hA:AtP e P) (hE:EatsP P):GoodR l 0 (F+1) (primR l e E) (primP e P):=by
 rintro⟨k,ns,fl⟩ h1 h2 h3
 dsimp only at h1 h2 h3⊢
 subst h1
 rcases Nat.lt_or_ge k l.length with hk|hk
 rotate_left
 ·have hn:l.drop k=[]:=List.drop_eq_nil_of_le hk
  have hh:=ho k
  unfold primR
  simp only[hn]
  rw[if_neg (by decide),if_neg (by decide),if_neg (by decide),if_neg (by decide),if_neg (by decide),if_neg (by decide),if_neg (by decide),if_neg (by decide),if_neg (by decide),if_neg (by decide)]
  rw[hn] at hh
  unfold primP
  rw[rBad_n rfl,hn]
  exact⟨hh,Nat.le_refl _,h2,by(try dsimp only);omega,rfl⟩
 have hd:=dropE1 hk
 have hp1:primP e P (l.drop k) ns=primP e P (l[k]::l.drop (k+1)) ns:=by rw[←hd]
 rw[hp1]
 unfold primP primR
 dsimp only[rAdv]
 rw[show pKind (l.drop k)=l[k].kind by rw[hd];rfl,show pText (l.drop k)=l[k].text by rw[hd];rfl,show rdVal (l.drop k)=l[k].val by rw[hd];rfl,←hd]
 by_cases hc0:l[k].kind=3
 ·rw[if_pos hc0,if_pos hc0]
  exact fin_add (by(try dsimp only);omega) hk (by(try dsimp only);omega)
 rw[if_neg hc0,if_neg hc0]
 by_cases hc1:l[k].kind=4
 ·rw[if_pos hc1,if_pos hc1]
  exact fin_add (by(try dsimp only);omega) hk (by(try dsimp only);omega)
 rw[if_neg hc1,if_neg hc1]
 by_cases hc2:isWrd wNull (l.drop k)=true
 ·rw[if_pos hc2,if_pos hc2]
  exact fin_add (by(try dsimp only);omega) hk (by(try dsimp only);omega)
 rw[if_neg hc2,if_neg hc2]
 by_cases hc3:isWrd wTrue (l.drop k)=true
 ·rw[if_pos hc3,if_pos hc3]
  exact fin_add (by(try dsimp only);omega) hk (by(try dsimp only);omega)
 rw[if_neg hc3,if_neg hc3]
 by_cases hc4:isWrd wFalse (l.drop k)=true
 ·rw[if_pos hc4,if_pos hc4]
  exact fin_add (by(try dsimp only);omega) hk (by(try dsimp only);omega)
 rw[if_neg hc4,if_neg hc4]
 by_cases hc5:l[k].kind=1
 ·rw[if_pos hc5,if_pos hc5]
  unfold callR
  dsimp only
  have hnm:rName l e ⟨k,ns,-1⟩=(l[k].text,⟨k+1,ns,-1⟩):=by
   unfold rName
   rw[if_pos (by rw[hd];exact hc5)]
   rw[show pText (l.drop k)=l[k].text by rw[hd];rfl]
  rw[hnm]
  dsimp only[rAdv]
  by_cases hp:isSym sLP (l.drop (k+1))=true
  ·rw[if_pos hp,if_pos hp,List.tail_drop]
   have hlt:=tk_lt hp
   have hg:=listG_at ho hO hA hE (fin:=sRP) (k:=k+1+1) (ns:=ns) hlt (by omega)
   cases hL:listP e sRP P (l.drop (k+1+1)) ns with
   |error o=>
    rw[hL] at hg
    obtain⟨g1,g2,g3,g4,g5⟩:=hg.err
    dsimp only at g2 g4
    exact fin_addE g1 (by(try dsimp only);omega) g3 (by(try dsimp only);omega) g5
   |ok q=>
    obtain⟨js,r1,ns1⟩:=q
    rw[hL] at hg
    obtain⟨k1,g1,g2,rfl,g4,g5⟩:=hg.ok
    dsimp only at g1 g4
    rw[g5]
    exact fin_add (by(try dsimp only);omega) g2 (by(try dsimp only);omega)
  ·rw[if_neg hp,if_neg hp]
   exact fin_add (by(try dsimp only);omega) hk (by(try dsimp only);omega)
 rw[if_neg hc5,if_neg hc5]
 by_cases hc6:l[k].kind=6
 ·rw[if_pos hc6,if_pos hc6]
  unfold hostR
  dsimp only[rAdv]
  rw[show pText (l.drop k)=l[k].text by rw[hd];rfl]
  unfold mustT
  by_cases hp:isSym sLP (l.drop (k+1))=true
  ·rw[if_pos (show isTk 5 sLP (l.drop (k+1))=true from hp),rTake_y (s:=⟨k+1,ns,-1⟩) hp,List.tail_drop]
   have hlt:=tk_lt hp
   dsimp only[rAdv]
   rw[if_pos (by omega)]
   have hg:=listG_at ho hO hA hE (fin:=sRP) (k:=k+1+1) (ns:=ns) hlt (by omega)
   cases hL:listP e sRP P (l.drop (k+1+1)) ns with
   |error o=>
    rw[hL] at hg
    obtain⟨g1,g2,g3,g4,g5⟩:=hg.err
    dsimp only at g2 g4
    exact fin_addE g1 (by(try dsimp only);omega) g3 (by(try dsimp only);omega) g5
   |ok q=>
    obtain⟨js,r1,ns1⟩:=q
    rw[hL] at hg
    obtain⟨k1,g1,g2,rfl,g4,g5⟩:=hg.ok
    dsimp only at g1 g4
    rw[g5]
    exact fin_add (by(try dsimp only);omega) g2 (by(try dsimp only);omega)
  ·have hp:isSym sLP (l.drop (k+1))=false:=by simpa using hp
   have hh:=ho (k+1)
   rw[if_neg (by rw[show isTk 5 sLP (l.drop (k+1))=false from hp];simp),rTake_n (s:=⟨k+1,ns,-1⟩) hp rfl]
   dsimp only
   rw[if_neg (by omega)]
   exact⟨hh,by(try dsimp only);omega,hk,by(try dsimp only);omega,rfl⟩
 rw[if_neg hc6,if_neg hc6]
 by_cases hc7:isSym sLB (l.drop k)=true
 ·rw[if_pos hc7,if_pos hc7]
  have hg:=listG_at ho hO hA hE (fin:=sRB) (k:=k+1) (ns:=ns) hk (by omega)
  cases hL:listP e sRB P (l.drop (k+1)) ns with
  |error o=>
   rw[hL] at hg
   obtain⟨g1,g2,g3,g4,g5⟩:=hg.err
   dsimp only at g2 g4
   exact fin_addE g1 (by(try dsimp only);omega) g3 (by(try dsimp only);omega) g5
  |ok q=>
   obtain⟨js,r1,ns1⟩:=q
   rw[hL] at hg
   obtain⟨k1,g1,g2,rfl,g4,g5⟩:=hg.ok
   dsimp only at g1 g4
   rw[g5]
   exact fin_add (by(try dsimp only);omega) g2 (by(try dsimp only);omega)
 rw[if_neg hc7,if_neg hc7]
 by_cases hc8:isSym sLC (l.drop k)=true
 ·rw[if_pos hc8,if_pos hc8]
  have hg:=keyG_at ho hO (k:=k+1) (ns:=ns) hk (by omega)
  cases hL:keyP e P (l.drop (k+1)) ns with
  |error o=>
   rw[hL] at hg
   obtain⟨g1,g2,g3,g4,g5⟩:=hg.err
   dsimp only at g2 g4
   exact⟨g1,by(try dsimp only);omega,g3,by(try dsimp only);omega,g5⟩
  |ok q=>
   obtain⟨j,r1,ns1⟩:=q
   rw[hL] at hg
   obtain⟨k1,g1,g2,rfl,g4,g5⟩:=hg.ok
   dsimp only at g1 g4
   exact⟨k1,by(try dsimp only);omega,g2,rfl,by(try dsimp only);omega,g5⟩
 rw[if_neg hc8,if_neg hc8]
 by_cases hc9:isSym sLP (l.drop k)=true
 ·rw[if_pos hc9,if_pos hc9]
  have hg:=hO.at (k:=k+1) (ns:=ns) hk (by omega)
  cases hL:P (l.drop (k+1)) ns with
  |error o=>
   rw[hL] at hg
   obtain⟨g1,g2,g3,g4,g5⟩:=hg.err
   dsimp only at g2 g4
   obtain⟨t1,t2,t3,t4⟩:=rTake_f (e:=e) (x:=sRP) (s:=(E ⟨k+1,ns,-1⟩).2) (by omega) g3
   exact⟨g1,by(try dsimp only);omega,t2,by dsimp only;rw[t3];omega,by rw[t4];exact g5⟩
  |ok q=>
   obtain⟨j,r1,ns1⟩:=q
   rw[hL] at hg
   obtain⟨k1,g1,g2,rfl,g4,g5⟩:=hg.ok
   dsimp only at g1 g4
   rw[g5]
   unfold mustT
   dsimp only
   by_cases hp:isSym sRP (l.drop k1)=true
   ·rw[if_pos (show isTk 5 sRP (l.drop k1)=true from hp),rTake_y (s:=⟨k1,ns1,-1⟩) hp,List.tail_drop]
    have:=tk_lt hp
    exact⟨k1+1,by(try dsimp only);omega,this,rfl,by(try dsimp only);omega,rfl⟩
   ·have hp:isSym sRP (l.drop k1)=false:=by simpa using hp
    rw[if_neg (by rw[show isTk 5 sRP (l.drop k1)=false from hp];simp),rTake_n (s:=⟨k1,ns1,-1⟩) hp rfl]
    exact⟨ho _,by(try dsimp only);omega,g2,by(try dsimp only);omega,rfl⟩
 rw[if_neg hc9,if_neg hc9]
 ·rw[rBad_n rfl]
  have hh:=ho k
  rw[show offT e (l.drop k)=l[k].at_ by rw[hd];rfl] at hh⊢
  exact⟨hh,by(try dsimp only);omega,h2,by(try dsimp only);omega,rfl⟩
theorem post_fin {E:RdF Int} {P:Pars} (hO:GoodR l 0 F E P) {s0:Rs}:∀(f:Nat) (i:Int) (s:Rs),s.fl= -1→s0.k<s.k→s.k≤l.length→l.length≤s.k+F→s.ns.length+s0.k≤s0.ns.length+s.k→
  Fin l 0 s0 (postF e P f i (l.drop s.k) s.ns) (postR l e E f i s)
 |0,i,s,h1,h2,h3,h4,h5=>⟨s.k,h2,h3,rfl,h5,by rw[postR,←eta_s h1]⟩
 |f+1,i,s,h1,h2,h3,h4,h5=>by
  unfold postF postR
  by_cases ht:isSym sLB (l.drop s.k)=true
  ·rw[if_pos ht,if_pos ⟨by omega,ht⟩,List.tail_drop]
   have hk:=tk_lt ht
   have hg:=hO.at (k:=s.k+1) (ns:=s.ns) hk (by omega)
   dsimp only[rAdv]
   rw[h1]
   cases hP:P (l.drop (s.k+1)) s.ns with
   |error o=>
    rw[hP] at hg
    obtain⟨g1,g2,g3,g4,g5⟩:=hg.err
    dsimp only at g2 g4
    obtain⟨t1,t2,t3,t4⟩:=rTake_f (e:=e) (x:=sRB) (s:=(E ⟨s.k+1,s.ns,-1⟩).2) (by omega) g3
    rw[postR_f f _ (by dsimp only[rAdd];omega)]
    exact⟨g1,by dsimp only[rAdd];omega,t2,by simp only[rAdd,List.length_append,List.length_singleton,t3];omega,by dsimp only[rAdd];rw[t4];exact g5⟩
   |ok q=>
    obtain⟨j,r1,ns1⟩:=q
    rw[hP] at hg
    obtain⟨k1,g1,g2,rfl,g4,g5⟩:=hg.ok
    dsimp only at g1 g4
    rw[g5]
    unfold mustT
    dsimp only
    by_cases hp:isSym sRB (l.drop k1)=true
    ·rw[if_pos (show isTk 5 sRB (l.drop k1)=true from hp),rTake_y (s:=⟨k1,ns1,-1⟩) hp,List.tail_drop]
     have:=tk_lt hp
     exact post_fin hO f _ ⟨k1+1,ns1++[ndM 10 [] 0 [i,j]],-1⟩ rfl (by(try dsimp only);omega) this (by(try dsimp only);omega) (by simp only[List.length_append,List.length_singleton];omega)
    ·have hp:isSym sRB (l.drop k1)=false:=by simpa using hp
     rw[if_neg (by rw[show isTk 5 sRB (l.drop k1)=false from hp];simp),rTake_n (s:=⟨k1,ns1,-1⟩) hp rfl,postR_f f _ (ho _)]
     exact⟨ho _,by dsimp only[rAdd];omega,g2,by simp only[rAdd,List.length_append,List.length_singleton];omega,rfl⟩
  ·rw[if_neg ht,if_neg (fun h=>ht h.2)]
   exact⟨s.k,h2,h3,rfl,h5,by rw[←eta_s h1]⟩
theorem postG_good {E:RdF Int} {P:Pars} (hO:GoodR l 0 F E P) (hA:AtP e P) (hE:EatsP P):GoodR l 0 (F+1) (postG l e E) (postP e P):=by
 intro s h1 h2 h3
 have hg:=primG_good ho hO hA hE s h1 h2 h3
 unfold postG postP
 cases hP:primP e P (l.drop s.k) s.ns with
 |error o=>
  rw[hP] at hg
  obtain⟨g1,g2,g3,g4,g5⟩:=hg.err
  rw[postR_f _ _ (by omega)]
  exact⟨g1,g2,g3,g4,g5⟩
 |ok q=>
  obtain⟨j,r1,ns1⟩:=q
  rw[hP] at hg
  obtain⟨k1,g1,g2,rfl,g4,g5⟩:=hg.ok
  rw[g5]
  dsimp only
  rw[List.length_drop]
  exact post_fin ho hO _ j ⟨k1,ns1,-1⟩ rfl g1 g2 (by(try dsimp only);omega) g4
omit ho in
theorem unary_cons {e:Int} {P:Pars} {k:Nat} {ns:List Nd} (h:isSym sMi (l.drop k)=true):unaryP e P (l.drop k) ns=match unaryP e P (l.drop (k+1)) ns with
  | .error o=> .error o
  | .ok (i,r2,ns2)=>addN (ndM 8 sMi 0 [i]) r2 ns2:=by
 have hd:=dropE1 (tk_lt h)
 rw[hd] at h⊢
 rw[unaryP,if_pos h]
 rfl
omit ho in
theorem unary_not {e:Int} {P:Pars} {k:Nat} {ns:List Nd} (h:¬isSym sMi (l.drop k)=true):unaryP e P (l.drop k) ns=postP e P (l.drop k) ns:=by
 rcases Nat.lt_or_ge k l.length with hk|hk
 ·rw[dropE1 hk] at h⊢
  rw[unaryP,if_neg h]
 ·rw[List.drop_eq_nil_of_le hk];rfl
theorem unary_fin {E:RdF Int} {P:Pars} (hO:GoodR l 0 F E P) (hA:AtP e P) (hE:EatsP P):∀(f:Nat) (k:Nat) (ns:List Nd),k≤l.length→l.length<k+(F+1)→l.length≤k+f→Fin l 0 ⟨k,ns,-1⟩ (unaryP e P (l.drop k) ns) (unaryR l e E f ⟨k,ns,-1⟩)
 |0,k,ns,h2,h3,h4=>by
  rw[unary_not (fun h=>by have:=tk_lt h;omega)]
  exact(postG_good ho hO hA hE).at h2 h3
 |f+1,k,ns,h2,h3,h4=>by
  unfold unaryR
  dsimp only[rAdv]
  by_cases h:isSym sMi (l.drop k)=true
  ·rw[unary_cons h,if_pos h]
   have hk:=tk_lt h
   have hg:=unary_fin hO hA hE f (k+1) ns hk (by omega) (by omega)
   cases hP:unaryP e P (l.drop (k+1)) ns with
   |error o=>
    rw[hP] at hg
    obtain⟨g1,g2,g3,g4,g5⟩:=hg.err
    dsimp only at g2 g4
    exact fin_addE g1 (by(try dsimp only);omega) g3 (by(try dsimp only);omega) g5
   |ok q=>
    obtain⟨j,r1,ns1⟩:=q
    rw[hP] at hg
    obtain⟨k1,g1,g2,rfl,g4,g5⟩:=hg.ok
    dsimp only at g1 g4
    rw[g5]
    exact fin_add (by(try dsimp only);omega) g2 (by(try dsimp only);omega)
  ·rw[unary_not h,if_neg h]
   exact(postG_good ho hO hA hE).at h2 h3
theorem unaryG_good {E:RdF Int} {P:Pars} (hO:GoodR l 0 F E P) (hA:AtP e P) (hE:EatsP P):GoodR l 0 (F+1) (unaryG l e E) (unaryP e P):=by
 rintro⟨k,ns,fl⟩ h1 h2 h3
 dsimp only at h1 h2 h3
 subst h1
 exact unary_fin ho hO hA hE _ k ns h2 h3 (by(try dsimp only);omega)
theorem sumG_good {E:RdF Int} {P:Pars} (hO:GoodR l 0 F E P) (hA:AtP e P) (hE:EatsP P):GoodR l 0 (F+1) (sumG l e E) (sumP e P):=chainG_good (chainG_good (unaryG_good ho hO hA hE))
theorem cmpG_good {E:RdF Int} {P:Pars} (hO:GoodR l 0 F E P) (hA:AtP e P) (hE:EatsP P):GoodR l 0 (F+1) (cmpG l e E) (cmpP e P):=by
 rintro⟨k,ns,fl⟩ h1 h2 h3
 dsimp only at h1 h2 h3⊢
 subst h1
 have hg:=(sumG_good ho hO hA hE).at (ns:=ns) h2 h3
 unfold cmpG cmpP
 cases hP:sumP e P (l.drop k) ns with
 |error o=>
  rw[hP] at hg
  obtain⟨g1,g2,g3,g4,g5⟩:=hg.err
  dsimp only
  rw[if_neg (fun h=>by omega)]
  exact⟨g1,g2,g3,g4,g5⟩
 |ok q=>
  obtain⟨j,r1,ns1⟩:=q
  rw[hP] at hg
  obtain⟨k1,g1,g2,rfl,g4,g5⟩:=hg.ok
  dsimp only at g1 g4
  rw[g5]
  dsimp only[rAdv]
  by_cases ht:tst 5 opCmp (l.drop k1)=true
  ·rw[if_pos (tst_iff.1 ht),if_pos ⟨by omega,ht⟩,List.tail_drop]
   have hk:=ne_lt (tst_iff.1 ht).2.2
   have hg2:=(sumG_good ho hO hA hE).at (k:=k1+1) (ns:=ns1) hk (by omega)
   cases hP2:sumP e P (l.drop (k1+1)) ns1 with
   |error o=>
    rw[hP2] at hg2
    obtain⟨p1,p2,p3,p4,p5⟩:=hg2.err
    dsimp only at p2 p4
    exact fin_addE p1 (by(try dsimp only);omega) p3 (by(try dsimp only);omega) p5
   |ok q=>
    obtain⟨j2,r2,ns2⟩:=q
    rw[hP2] at hg2
    obtain⟨k2,p1,p2,rfl,p4,p5⟩:=hg2.ok
    dsimp only at p1 p4
    rw[p5]
    exact fin_add (by(try dsimp only);omega) p2 (by(try dsimp only);omega)
  ·rw[if_neg (fun h=>ht (tst_iff.2 h)),if_neg (fun h=>ht h.2)]
   exact⟨k1,g1,g2,rfl,g4,rfl⟩
omit ho in
theorem not_cons {e:Int} {P:Pars} {k:Nat} {ns:List Nd} (h:isWrd wNot (l.drop k)=true):notP e P (l.drop k) ns=match notP e P (l.drop (k+1)) ns with
  | .error o=> .error o
  | .ok (i,r2,ns2)=>addN (ndM 8 wNot 0 [i]) r2 ns2:=by
 have hd:=dropE1 (tk_lt h)
 rw[hd] at h⊢
 rw[notP,if_pos h]
 rfl
omit ho in
theorem not_not {e:Int} {P:Pars} {k:Nat} {ns:List Nd} (h:¬isWrd wNot (l.drop k)=true):notP e P (l.drop k) ns=cmpP e P (l.drop k) ns:=by
 rcases Nat.lt_or_ge k l.length with hk|hk
 ·rw[dropE1 hk] at h⊢
  rw[notP,if_neg h]
 ·rw[List.drop_eq_nil_of_le hk];rfl
theorem not_fin {E:RdF Int} {P:Pars} (hO:GoodR l 0 F E P) (hA:AtP e P) (hE:EatsP P):∀(f:Nat) (k:Nat) (ns:List Nd),k≤l.length→l.length<k+(F+1)→l.length≤k+f→Fin l 0 ⟨k,ns,-1⟩ (notP e P (l.drop k) ns) (notR l e E f ⟨k,ns,-1⟩)
 |0,k,ns,h2,h3,h4=>by
  rw[not_not (fun h=>by have:=tk_lt h;omega)]
  exact(cmpG_good ho hO hA hE).at h2 h3
 |f+1,k,ns,h2,h3,h4=>by
  unfold notR
  dsimp only[rAdv]
  by_cases h:isWrd wNot (l.drop k)=true
  ·rw[not_cons h,if_pos h]
   have hk:=tk_lt h
   have hg:=not_fin hO hA hE f (k+1) ns hk (by omega) (by omega)
   cases hP:notP e P (l.drop (k+1)) ns with
   |error o=>
    rw[hP] at hg
    obtain⟨g1,g2,g3,g4,g5⟩:=hg.err
    dsimp only at g2 g4
    exact fin_addE g1 (by(try dsimp only);omega) g3 (by(try dsimp only);omega) g5
   |ok q=>
    obtain⟨j,r1,ns1⟩:=q
    rw[hP] at hg
    obtain⟨k1,g1,g2,rfl,g4,g5⟩:=hg.ok
    dsimp only at g1 g4
    rw[g5]
    exact fin_add (by(try dsimp only);omega) g2 (by(try dsimp only);omega)
  ·rw[not_not h,if_neg h]
   exact(cmpG_good ho hO hA hE).at h2 h3
theorem notG_good {E:RdF Int} {P:Pars} (hO:GoodR l 0 F E P) (hA:AtP e P) (hE:EatsP P):GoodR l 0 (F+1) (notG l e E) (notP e P):=by
 rintro⟨k,ns,fl⟩ h1 h2 h3
 dsimp only at h1 h2 h3
 subst h1
 exact not_fin ho hO hA hE _ k ns h2 h3 (by(try dsimp only);omega)
theorem orG_good {E:RdF Int} {P:Pars} (hO:GoodR l 0 F E P) (hA:AtP e P) (hE:EatsP P):GoodR l 0 (F+1) (orG l e E) (orP e P):=chainG_good (chainG_good (notG_good ho hO hA hE))
theorem exprR_good:∀f,GoodR l 0 f (exprR l e f) (exprP e f)
 |0=>fun s _ h2 h3=>by omega
 |f+1=>orG_good ho (exprR_good f) (exprP_at f) (exprP_eats f)
end
end Go.Proofs.YtglndfgmlminpaaGreatDoor
