/- Texts joined by pack.py: XSyH XSyI XSyK XSyL XSyN XSyO0 -/
import Derived.Test.YtdccglkagfdooaaGreatDoorBz32
set_option maxHeartbeats 16000000
set_option maxRecDepth 100000
namespace Go.Proofs.YtdccglkagfdooaaGreatDoor
open Go.RowKit
section
variable {l:List Tok} {k:Nat} {e:Int} {ns:List Nd} {fs:List Fc} {f:Nat} {E:Pars}
abbrev kB0:Bk:= .box [int 7,bstr [],int 0,.cv (.slice none 0 0),.cv (.slice none 0 0)]
abbrev hM0 (l:List Tok) (k:Nat) (e:Int) (ns:List Nd) (fs:List Fc):List Bk:=[pBox l k e 1 2,nRow ns,fRow fs,kB0,.box [.bx 0 0]]
abbrev hM1 (l:List Tok) (k:Nat) (e:Int) (ns:List Nd) (fs:List Fc) (ks:List Bs) (js:List Int):List Bk:=[pBox l k e 1 2,nRow ns,fRow fs,.box [int 7,bstr [],int 0,.ow 5 0,.ow 6 0],.box [.bx 0 0],sRow true ks,iRow true js]
abbrev itemK:V:= .fn 233 0 [.bx 3 0,.bx 4 0]
theorem x_klist0 (hl:l.length≤1000000) (h:isSym sRC (l.drop k)=true):
  MCalls Tryz.prog 118 [.bx 0 0,bstr sRC,itemK] (hM0 l k e ns fs) (.tu []) (hM0 l (k+1) e ns fs):=by
 have hb:nextB 5 [sRC] (l.drop k)=true:=by rw[nextB_one];exact h
 refine mcx Tryz.func118 (by kernel_rfl) (by kernel_rfl) ?_
 conv=>whnf
 refine mcall (T:=TM parM) (φ:=[]) (gf:=false) (x_takeY hl (by simp) hb (nextB_yes hb)) ?_
 conv=>whnf
 refine known true rfl ?_
 conv=>whnf
 exact⟨rfl,rfl,rfl⟩
def keyL (e:Int) (E:Pars):Nat→List Bs→List Int→List Tok→List Nd→Except Int (List Bs×List Int×List Tok×List Nd)
 |0,_,_,r,_=> .error (offT e r)
 |f+1,ks,l,r,ns=>
  if pKind r=4∧r≠[]∧(ks=[]∨Op.bytesLess (ks.getLastD []) (pText r)=true) then
   (match mustT e 5 sCl r.tail with
   | .error o=> .error o
   | .ok r1=>match E r1 ns with
    | .error o=> .error o
    | .ok (i,r2,ns2)=>
     if isSym sRC r2 then .ok (ks++[pText r],l++[i],r2.tail,ns2)
     else if isSym sCm r2 then keyL e E f (ks++[pText r]) (l++[i]) r2.tail ns2
     else .error (offT e r2))
  else .error (offT e r)
theorem keyF_eq (e:Int) (E:Pars):∀(f:Nat) (ks:List Bs) (l:List Int) (r:List Tok) (ns:List Nd),keyF e E f ks l r ns=match keyL e E f ks l r ns with
  | .error o=> .error o
  | .ok (ks,js,r1,ns1)=>addN ⟨7,[],0,ks,js⟩ r1 ns1
 |0,ks,l,r,ns=>rfl
 |f+1,ks,l,r,ns=>by
  simp only[keyF,keyL]
  split
  ·cases mustT e 5 sCl r.tail with
   |error o=>rfl
   |ok r1=>
    dsimp only
    cases E r1 ns with
    |error o=>rfl
    |ok x=>
     obtain⟨i,r2,ns2⟩:=x
     dsimp only
     split
     ·rfl
     ·split
      ·exact keyF_eq e E f _ _ _ _
      ·rfl
  ·rfl
def outH (l:List Tok) (e:Int) (fs:List Fc):Except Int (List Bs×List Int×List Tok×List Nd)→Except Value (V×List Bk)
 | .ok (ks,js,r1,ns1)=> .ok (.tu [],hM1 l (l.length - r1.length) e ns1 fs ks js)
 | .error o=> .error (faultV o)
theorem outH_ok {ks:List Bs} {js:List Int} {k1:Nat} {ns1:List Nd} (hk:k1≤l.length):outH l e fs (.ok (ks,js,l.drop k1,ns1))= .ok (.tu [],hM1 l k1 e ns1 fs ks js):=by
 simp only[outH,List.length_drop]
 rw[show l.length - (l.length - k1)=k1 by omega]
theorem mustT_drop {K:Int} {s:Bs}:mustT e K s (l.drop k)=if isTk K s (l.drop k) then .ok (l.drop (k+1)) else .error (offT e (l.drop k)):=by
 unfold mustT
 rw[tail_drop]
theorem x_klist1 (hC:PC 183 E l e fs f) (hE:EatsP E) (hG:GrowP E) (_hA:AtP e E) (hl:l.length≤1000000) (hk:k≤l.length) (hf:l.length - k<f) (hn:ns.length+(l.length - k)≤1000000)
  (h:isSym sRC (l.drop k)=false):
  MEnds Tryz.prog 118 [.bx 0 0,bstr sRC,itemK] (hM0 l k e ns fs) (outH l e fs (keyL e E (l.length - k) [] [] (l.drop k) ns)):=by
 have hb:nextB 5 [sRC] (l.drop k)=false:=by rw[nextB_one];exact h
 generalize hR:keyL e E (l.length - k) [] [] (l.drop k) ns=R
 refine mesx Tryz.func118 (by kernel_rfl) (by kernel_rfl) ?_
 conv=>whnf
 refine .inl ?_
 conv=>whnf
 refine mcall (T:=TM parM) (φ:=[]) (gf:=false) (x_takeN hl (by simp) hb hk) ?_
 conv=>whnf
 refine known false rfl ?_
 conv=>whnf
 refine⟨[(1030003,43,9,1),(1030004,44,3,1)],Nat×List Nd×List Bs×List Int,fun _=>[],fun⟨k,ns,ks,js⟩=>[(27,some (pBox l k e 28 29)),(28,some (nRow ns)),(29,some (fRow fs)),(43,some (sRow true ks)),(44,some (iRow true js))],
  fun⟨k2,ns,ks,js⟩=>k≤k2∧k2≤l.length∧ns.length+(l.length - k2)≤1000000∧ks.length+(l.length - k2)≤1000000∧js.length+(l.length - k2)≤1000000∧∃f',l.length - k2≤f'∧keyL e E f' ks js (l.drop k2) ns=R,fun x=>l.length - x.1,(k,ns,[],[]),⟨Nat.le_refl _,hk,hn,by simp;omega,by simp;omega,_,Nat.le_refl _,hR⟩,?_,?_⟩
 ·refine⟨rfl,?_,?_⟩<;>repeat' (first|exact trivial|exact rfl|refine and_rfl ?_|refine and_two ?_ ?_)
 clear hR hn hb h
 rintro⟨k2,ns,ks,js⟩ ⟨b0,b1,b2,b3,b3',f',b4,b5⟩
 rcases Nat.lt_or_ge k2 l.length with hlt|hge
 rotate_left
 ·have hd:l.drop k2=[]:=List.drop_eq_nil_of_le hge
  have hR:R= .error (offT e (l.drop k2)):=by
   rw[←b5,hd]
   cases f' with
   |zero=>rfl
   |succ f'=>unfold keyL;rw[if_neg (by simp)]
  subst hR
  conv=>whnf
  refine .inr ?_
  exact mpan (T:=TM parM) (x_kitemN0 b1 (nextB_end _ _ hge) hl) rfl
 obtain⟨f',rfl⟩:∃g,f'=g+1:=⟨f' - 1,by omega⟩
 unfold keyL at b5
 rw[tail_drop,pText_at hlt,mustT_drop] at b5
 by_cases hc:pKind (l.drop k2)=4∧l.drop k2≠[]∧(ks=[]∨Op.bytesLess (ks.getLastD []) l[k2].text=true)
 rotate_left
 ·rw[if_neg hc] at b5
  subst b5
  conv=>whnf
  refine .inr ?_
  by_cases h4:l[k2].kind=4
  ·have hne:l.drop k2≠[]:=List.ne_nil_of_length_pos (by rw[List.length_drop];omega)
   have hpk:pKind (l.drop k2)=4:=by rw[List.drop_eq_getElem_cons hlt];exact h4
   have ho:¬(ks=[]∨Op.bytesLess (ks.getLastD []) l[k2].text=true):=fun h=>hc ⟨hpk,hne,h⟩
   rw[not_or] at ho
   exact mpan (T:=TM parM) (x_kitemN1 (ks:=ks) (js:=js) hlt h4 ho.1 (by simpa using ho.2) hl (by omega)) rfl
  ·exact mpan (T:=TM parM) (x_kitemN0 b1 (by rw[nextB_eq _ _ hlt];simp[h4]) hl) rfl
 rw[if_pos hc] at b5
 obtain⟨c1,_,c3⟩:=hc
 have h4:l[k2].kind=4:=by rw[List.drop_eq_getElem_cons hlt] at c1;exact c1
 cases hcl:isTk 5 sCl (l.drop (k2+1)) with
 |false=>
  rw[hcl] at b5
  simp only[Bool.false_eq_true,if_false] at b5
  subst b5
  conv=>whnf
  refine .inr ?_
  exact mpan (T:=TM parM) (x_kitemN2 (ks:=ks) (js:=js) hlt h4 c3 hcl hl (by omega)) rfl
 |true=>
  rw[hcl] at b5
  simp only[if_true] at b5
  have hk2:k2+1<l.length:=by
   rcases Nat.lt_or_ge (k2+1) l.length with h1|h1
   ·exact h1
   ·rw[isTk_end _ _ h1] at hcl;cases hcl
  cases h1:E (l.drop (k2+2)) ns with
  |error o=>
   rw[show k2+1+1=k2+2 from rfl,h1] at b5
   subst b5
   conv=>whnf
   refine .inr ?_
   exact mpan (T:=TM parM) (x_kitemN3 (ks:=ks) (js:=js) hlt h4 c3 hcl hk2 (hC.err (by omega) (by omega) (by omega) h1) hl (by omega) (by omega)) rfl
  |ok r=>
   obtain⟨i,r1,ns3⟩:=r
   rw[show k2+1+1=k2+2 from rfl,h1] at b5
   obtain⟨k3,rfl,d1,d2,d3,d4⟩:=hC.ok hE hG (by omega) (by omega) (by omega) h1
   conv=>whnf
   refine .inl ?_
   conv=>whnf
   refine mcallR2 (T:=TM parM) (φ:=[]) (gf:=false) 43 44 (x_kitemY (ks:=ks) (js:=js) hlt h4 c3 hcl hk2 d4 hl (by omega) (by omega)) (flatS _) (flatI _) ?_
   cases hb:nextB 5 [sCm,sRC] (l.drop k3) with
   |false=>
    have hR:R= .error (offT e (l.drop k3)):=by
     rw[nextB_two,Bool.or_eq_false_iff] at hb
     rw[←b5]
     dsimp only
     rw[if_neg (by rw[show isSym sRC (l.drop k3)=false from hb.2];simp),if_neg (by rw[show isSym sCm (l.drop k3)=false from hb.1];simp)]
    subst hR
    conv=>whnf
    refine .inr ?_
    exact mpan (T:=TM parM) (x_mustN hl (by simp) hb d2) rfl
   |true=>
    have hk3:=nextB_yes hb
    conv=>whnf
    refine .inl ?_
    conv=>whnf
    refine mcall (T:=TM parM) (φ:=[]) (gf:=false) (x_mustY hl (by simp) hb hk3) ?_
    have hkd:l[k3].kind=5:=by
     rw[nextB_eq _ _ hk3] at hb
     simp at hb
     exact hb.1
    conv=>whnf
    rintro(_|_) h3
    ·have h3:(l[k3].text==sRC)=false:=(sEq_mk _ _).symm.trans h3
     have h4:isSym sCm (l.drop k3)=true:=by
      have h5:isTk 5 sRC (l.drop k3)=false:=by rw[isTk_drop _ _ hk3,h3,Bool.and_false]
      rw[nextB_two,h5,Bool.or_false] at hb
      exact hb
     dsimp only at b5
     rw[if_neg (by rw[show isSym sRC (l.drop k3)=false by rw[isSym,isTk_drop _ _ hk3,h3,Bool.and_false]];simp),if_pos h4,tail_drop] at b5
     conv=>whnf
     refine⟨(k3+1,ns3,ks++[l[k2].text],js++[i]),⟨by omega,by omega,by omega,by rw[List.length_append];simp;omega,by rw[List.length_append];simp;omega,f',by omega,b5⟩,by dsimp only;omega,?_⟩
     refine⟨rfl,?_,?_⟩<;>repeat' (first|exact trivial|exact rfl|refine and_rfl ?_|refine and_two ?_ ?_)
    ·have h3:(l[k3].text==sRC)=true:=(sEq_mk _ _).symm.trans h3
     dsimp only at b5
     rw[if_pos (show isSym sRC (l.drop k3)=true by rw[isSym,isTk_drop _ _ hk3,h3,hkd];rfl),tail_drop] at b5
     conv=>whnf
     exact⟨_,by rw[←b5,outH_ok (by omega)],rfl,rfl,rfl⟩
theorem keyP_keyL (r:List Tok) (ns:List Nd) (h:isSym sRC r=false):keyP e E r ns=match keyL e E r.length [] [] r ns with
  | .error o=> .error o
  | .ok (ks,js,r1,ns1)=>addN ⟨7,[],0,ks,js⟩ r1 ns1:=by
 unfold keyP
 rw[if_neg (by rw[h];simp),keyF_eq]
theorem keyL_grow (hE:EatsP E) (hG:GrowP E):∀(f:Nat) {ks:List Bs} {js:List Int} {r:List Tok} {ns:List Nd} {ks1:List Bs} {js1:List Int} {r1:List Tok} {ns1:List Nd},keyL e E f ks js r ns= .ok (ks1,js1,r1,ns1)→ns1.length+r1.length≤ns.length+r.length∧r1<:+r
 |0,ks,js,r,ns,ks1,js1,r1,ns1,h=>by cases h
 |f+1,ks,js,r,ns,ks1,js1,r1,ns1,h=>by
  simp only[keyL] at h
  split at h
  rotate_left
  ·cases h
  rename_i hc
  split at h
  ·cases h
  rename_i r2 h2
  have e2:=mustT_eats h2
  split at h
  ·cases h
  rename_i i r3 ns3 h3
  have e3:=hE h3
  have g3:=hG h3
  have l1:r.tail.length≤r.length:=by simp
  have l2:=e2.lt
  have s3:r3<:+r:=e3.suf.trans (e2.suf.trans (List.tail_suffix r))
  have l3:r3.tail.length≤r3.length:=by simp
  split at h
  ·cases h
   exact⟨by omega,(List.tail_suffix _).trans s3⟩
  ·split at h
   ·obtain⟨h5,h6⟩:=keyL_grow hE hG f h
    exact⟨by omega,h6.trans ((List.tail_suffix _).trans s3)⟩
   ·cases h
theorem x_keyed (hC:PC 183 E l e fs f) (hE:EatsP E) (hG:GrowP E) (hA:AtP e E) (hl:l.length≤1000000) (hk:k≤l.length) (hf:l.length - k<f) (hn:ns.length+(l.length - k)≤1000000):
  MEnds Tryz.prog 231 [.bx 0 0] (pM l k e ns fs) (outP l e fs (keyP e E (l.drop k) ns)):=by
 refine mesx Tryz.func231 (by kernel_rfl) (by kernel_rfl) ?_
 cases h:isSym sRC (l.drop k) with
 |true=>
  have hk1:k<l.length:=by
   rcases Nat.lt_or_ge k l.length with h1|h1
   ·exact h1
   ·rw[isSym,isTk_end _ _ h1] at h;cases h
  have hR:keyP e E (l.drop k) ns= .ok ((ns.length:Int),l.drop (k+1),ns++[⟨7,[],0,[],[]⟩]):=by unfold keyP;rw[if_pos h,tail_drop];rfl
  conv=>whnf
  refine .inl ?_
  conv=>whnf
  refine mcall (T:=TM parM) (φ:=[]) (gf:=false) (x_klist0 hl h) ?_
  conv=>whnf
  refine .inl ?_
  conv=>whnf
  refine mcall (T:=TM parM) (φ:=[]) (gf:=false) (x_add (ns:=ns) ⟨7,[],0,[],[]⟩ (show ns.length≤1000000 by omega)) ?_
  conv=>whnf
  exact⟨_,by rw[hR,outP_ok (by omega)],rfl,rfl,rfl⟩
 |false=>
  have c:=x_klist1 hC hE hG hA hl hk hf hn h
  have hR:=keyP_keyL (e:=e) (E:=E) (l.drop k) ns h
  rw[List.length_drop] at hR
  generalize hL:keyL e E (l.length - k) [] [] (l.drop k) ns=R at c hR
  cases R with
  |error o=>
   rw[hR]
   conv=>whnf
   refine .inr ?_
   exact mpan (T:=TM parM) c rfl
  |ok r=>
   obtain⟨ks,js,r1,ns1⟩:=r
   obtain⟨g1,g2⟩:=keyL_grow hE hG _ hL
   rw[List.length_drop] at g1
   rw[hR]
   conv=>whnf
   refine .inl ?_
   conv=>whnf
   refine mcall (T:=TM parM) (φ:=[27,28]) (gf:=false) c ?_
   conv=>whnf
   refine .inl ?_
   conv=>whnf
   refine mcall (T:=TM parM) (φ:=[]) (gf:=false) (x_add (ns:=ns1) ⟨7,[],0,ks,js⟩ (show ns1.length≤1000000 by omega)) ?_
   conv=>whnf
   exact⟨_,rfl,rfl,rfl,rfl⟩
end
end Go.Proofs.YtdccglkagfdooaaGreatDoor
namespace Go.Proofs.YtdccglkagfdooaaGreatDoor
open Go.RowKit
def pVal:List Tok→Int
 |t::_=>t.val
 |[]=>0
def lstN (e:Int) (fin:Bs) (E:Pars) (K:Int) (s:Bs) (r:List Tok) (ns:List Nd):PRes Int:=match listP e fin E r ns with
 | .error o=> .error o
 | .ok (l,r2,ns2)=>addN (ndM K s 0 l) r2 ns2
def primQ (e:Int) (E:Pars) (r:List Tok) (ns:List Nd):PRes Int:=
 if nextB 3 [] r then addN (ndM 3 [] (pVal r) []) r.tail ns
 else if nextB 4 [] r then addN (ndM 4 (pText r) 0 []) r.tail ns
 else if nextB 2 [wNull,wTrue,wFalse] r then
  (if pText r==wNull then addN (ndM 1 [] 0 []) r.tail ns
  else if pText r==wTrue then addN (ndM 2 [] 1 []) r.tail ns
  else addN (ndM 2 [] 0 []) r.tail ns)
 else if nextB 1 [] r then
  (if nextB 5 [sLP] r.tail then lstN e sRP E 11 (pText r) r.tail.tail ns
  else addN (ndM 5 (pText r) 0 []) r.tail ns)
 else if nextB 6 [] r then
  (if nextB 5 [sLP] r.tail then lstN e sRP E 12 (pText r) r.tail.tail ns
  else .error (offT e r.tail))
 else if nextB 5 [sLB,sLC,sLP] r then
  (if pText r==sLB then lstN e sRB E 6 [] r.tail ns
  else if pText r==sLC then keyP e E r.tail ns
  else match E r.tail ns with
   | .error o=> .error o
   | .ok (i,r2,ns2)=>if nextB 5 [sRP] r2 then .ok (i,r2.tail,ns2) else .error (offT e r2))
 else .error (offT e r)
theorem primP_eq (e:Int) (E:Pars) (r:List Tok) (ns:List Nd):primP e E r ns=primQ e E r ns:=by
 cases r with
 |nil=>rfl
 |cons t r1=>
  have n0:∀K,nextB K [] (t::r1)=decide (t.kind=K):=fun K=>by simp[nextB]
  have ns_:∀K (ts:List Bs),ts≠[]→nextB K ts (t::r1)=(decide (t.kind=K)&&ts.contains t.text):=fun K ts h=>by
   cases ts with
   |nil=>exact absurd rfl h
   |cons a ts=>rfl
  have w0:∀K s,isTk K s (t::r1)=(decide (t.kind=K)&&(t.text==s)):=fun K s=>rfl
  simp only[primP,primQ,n0,ns_ 2 [wNull,wTrue,wFalse] (by simp),ns_ 5 [sLB,sLC,sLP] (by simp),isWrd,isSym,w0,List.tail_cons,pText,pVal,lstN,nextB_one]
  by_cases h3:t.kind=3
  ·simp[h3]
  by_cases h4:t.kind=4
  ·simp[h4]
  by_cases h2:t.kind=2
  ·by_cases a1:t.text=wNull
   ·simp[h2,a1]
   by_cases a2:t.text=wTrue
   ·simp[h2,a2,show¬(wTrue=wNull) by decide]
   by_cases a3:t.text=wFalse
   ·simp[h2,a3,show¬(wFalse=wNull) by decide,show¬(wFalse=wTrue) by decide]
   ·simp[h2,a1,a2,a3,offT]
  by_cases h1:t.kind=1
  ·simp[h1]
   try rfl
  by_cases h6:t.kind=6
  ·by_cases hx:isTk 5 sLP r1=true
   ·simp[h6,hx,mustT]
    try rfl
   ·simp[h6,hx,mustT]
  by_cases h5:t.kind=5
  ·by_cases a1:t.text=sLB
   ·simp[h5,a1]
    try rfl
   by_cases a2:t.text=sLC
   ·simp[h5,a2,show¬(sLC=sLB) by decide]
   by_cases a3:t.text=sLP
   ·simp only[h5,a3]
    simp[show¬(sLP=sLB) by decide,show¬(sLP=sLC) by decide]
    cases E r1 ns with
    |error o=>rfl
    |ok x=>
     obtain⟨i,r2,ns2⟩:=x
     by_cases hx:isTk 5 sRP r2=true
     ·simp[hx,mustT]
     ·simp[hx,mustT]
   ·simp[h5,a1,a2,a3,offT]
  ·simp[h1,h2,h3,h4,h5,h6,offT]
end Go.Proofs.YtdccglkagfdooaaGreatDoor
namespace Go.Proofs.YtdccglkagfdooaaGreatDoor
open Go.RowKit
section
variable {l:List Tok} {e:Int} {fs:List Fc} {f:Nat} {E:Pars}
theorem x_post (hP:PC 229 (primP e E) l e fs (f+1)) (hC:PC 183 E l e fs f) (hE:EatsP E) (hG:GrowP E) (hl:l.length≤1000000):PC 228 (postP e E) l e fs (f+1):=by
 intro k ns hk hf hn
 generalize hR:postP e E (l.drop k) ns=R
 unfold postP at hR
 refine mesx Tryz.func228 (by kernel_rfl) (by kernel_rfl) ?_
 cases h1:primP e E (l.drop k) ns with
 |error o=>
  rw[h1] at hR
  subst hR
  conv=>whnf
  refine .inr ?_
  exact mpan (T:=TM parM) (hP.err hk hf hn h1) rfl
 |ok r=>
  obtain⟨i,r1,ns1⟩:=r
  rw[h1] at hR
  obtain⟨k1,rfl,c1,c2,c3,c4⟩:=hP.ok (primP_eats hE) (primP_grow hG hE) hk hf hn h1
  conv=>whnf
  refine .inl ?_
  conv=>whnf
  refine mcall (T:=TM parM) (φ:=[]) (gf:=false) c4 ?_
  conv=>whnf
  refine⟨[],Nat×Int×List Nd,fun⟨k,i,ns⟩=>[(3,int i)],fun⟨k,i,ns⟩=>[(29,some (pBox l k e 30 31)),(30,some (nRow ns)),(31,some (fRow fs))],
   fun⟨k,i,ns⟩=>k1≤k∧k≤l.length∧ns.length+(l.length - k)≤1000000∧∃f',l.length - k≤f'∧postF e E f' i (l.drop k) ns=R,fun x=>l.length - x.1,(k1,i,ns1),⟨Nat.le_refl _,c2,by omega,_,by rw[List.length_drop];exact Nat.le_refl _,hR⟩,?_,?_⟩
  ·refine⟨rfl,?_,?_⟩<;>repeat' (first|exact trivial|exact rfl|refine and_rfl ?_|refine and_two ?_ ?_)
  clear h1 hR c2 c3 c4 hn
  rintro⟨k2,i,ns⟩ ⟨b0,b1,b2,f',b3,b4⟩
  conv=>whnf
  refine .inl ?_
  cases hb:nextB 5 [sLB] (l.drop k2) with
  |false=>
   conv=>whnf
   refine mcall (T:=TM parM) (φ:=[]) (gf:=false) (x_takeN (ts:=[sLB]) hl (by simp) hb b1) ?_
   conv=>whnf
   refine known true rfl ?_
   have hR:R= .ok (i,l.drop k2,ns):=by
    rw[←b4]
    cases f' with
    |zero=>rfl
    |succ f'=>
     unfold postF
     rw[if_neg (by rw[isSym,←nextB_one,hb];simp)]
   conv=>whnf
   exact⟨_,by rw[hR,outP_ok b1],rfl,rfl,rfl⟩
  |true=>
   have hk2:=nextB_yes hb
   conv=>whnf
   refine mcall (T:=TM parM) (φ:=[]) (gf:=false) (x_takeY (ts:=[sLB]) hl (by simp) hb hk2) ?_
   conv=>whnf
   refine known false rfl ?_
   obtain⟨f',rfl⟩:∃g,f'=g+1:=⟨f' - 1,by omega⟩
   unfold postF at b4
   rw[if_pos (by rw[isSym,←nextB_one,hb]),tail_drop] at b4
   cases h2:E (l.drop (k2+1)) ns with
   |error o=>
    rw[h2] at b4
    subst b4
    conv=>whnf
    refine .inr ?_
    exact mpan (T:=TM parM) (hC.err (by omega) (by omega) (by omega) h2) rfl
   |ok r=>
    obtain⟨j,r3,ns3⟩:=r
    rw[h2] at b4
    obtain⟨k3,rfl,d1,d2,d3,d4⟩:=hC.ok hE hG (by omega) (by omega) (by omega) h2
    dsimp only at b4
    rw[mustT_drop,←nextB_one] at b4
    conv=>whnf
    refine .inl ?_
    conv=>whnf
    refine mcall (T:=TM parM) (φ:=[]) (gf:=false) d4 ?_
    cases hc:nextB 5 [sRB] (l.drop k3) with
    |false=>
     rw[if_neg (by rw[hc];simp)] at b4
     subst b4
     conv=>whnf
     refine .inr ?_
     exact mpan (T:=TM parM) (x_mustN (k:=k3) (ts:=[sRB]) hl (by simp) hc d2) rfl
    |true=>
     have hk3:=nextB_yes hc
     rw[if_pos hc] at b4
     conv=>whnf
     refine .inl ?_
     conv=>whnf
     refine mcall (T:=TM parM) (φ:=[]) (gf:=false) (x_mustY (k:=k3) (ts:=[sRB]) hl (by simp) hc hk3) ?_
     conv=>whnf
     refine .inl ?_
     conv=>whnf
     refine mcall (T:=TM parM) (φ:=[]) (gf:=false) (x_add (ns:=ns3) (ndM 10 [] 0 [i,j]) (show ns3.length≤1000000 by omega)) ?_
     conv=>whnf
     refine⟨(k3+1,(ns3.length:Nat),ns3++[ndM 10 [] 0 [i,j]]),⟨by omega,by omega,by rw[List.length_append];simp;omega,f',by omega,b4⟩,by dsimp only;omega,?_⟩
     refine⟨rfl,?_,?_⟩<;>repeat' (first|exact trivial|exact rfl|refine and_rfl ?_|refine and_two ?_ ?_)
theorem unaryP_drop {k:Nat} {ns:List Nd}:unaryP e E (l.drop k) ns=if nextB 5 [sMi] (l.drop k) then(match unaryP e E (l.drop (k+1)) ns with
      | .error o=> .error o
      | .ok (i,r2,ns2)=>addN (ndM 8 sMi 0 [i]) r2 ns2) else postP e E (l.drop k) ns:=by
 rw[nextB_one]
 rcases Nat.lt_or_ge k l.length with h|h
 ·rw[List.drop_eq_getElem_cons h]
  show(if isSym sMi _ then _ else _)=_
  rfl
 ·rw[List.drop_eq_nil_of_le h];rfl
theorem x_unary (hP:PC 228 (postP e E) l e fs (f+1)) (hE:EatsP E) (hG:GrowP E) (hl:l.length≤1000000):∀(d:Nat) (k:Nat) (ns:List Nd),l.length - k≤d→k≤l.length→l.length - k<f+1→ns.length+(l.length - k)≤1000000→
  MEnds Tryz.prog 226 [.bx 0 0] (pM l k e ns fs) (outP l e fs (unaryP e E (l.drop k) ns)):=by
 intro d
 induction d with
 |zero=>?_
 |succ d ih=>?_
 all_goals
  intro k ns hd hk hf hn
  rw[unaryP_drop]
  refine mesx Tryz.func226 (by kernel_rfl) (by kernel_rfl) ?_
  conv=>whnf
  refine .inl ?_
  cases hb:nextB 5 [sMi] (l.drop k) with
  |false=>
   conv=>whnf
   refine mcall (T:=TM parM) (φ:=[]) (gf:=false) (x_takeN (ts:=[sMi]) hl (by simp) hb hk) ?_
   conv=>whnf
   refine known false rfl ?_
   rw[if_neg (by simp)]
   cases h1:postP e E (l.drop k) ns with
   |error o=>
    conv=>whnf
    refine .inr ?_
    exact mpan (T:=TM parM) (hP.err hk hf hn h1) rfl
   |ok r=>
    obtain⟨i,r1,ns1⟩:=r
    obtain⟨k1,rfl,c1,c2,c3,c4⟩:=hP.ok (postP_eats hE) (postP_grow hG hE) hk hf hn h1
    conv=>whnf
    refine .inl ?_
    conv=>whnf
    refine mcall (T:=TM parM) (φ:=[]) (gf:=false) c4 ?_
    conv=>whnf
    exact⟨_,by rw[outP_ok c2],rfl,rfl,rfl⟩
  |true=>
   have hk1:=nextB_yes hb
   first
   |exact absurd hk1 (by omega)
   | rw[if_pos rfl]
     conv=>whnf
     refine mcall (T:=TM parM) (φ:=[]) (gf:=false) (x_takeY (ts:=[sMi]) hl (by simp) hb hk1) ?_
     conv=>whnf
     refine known true rfl ?_
     have c:=ih (k+1) ns (by omega) (by omega) (by omega) (by omega)
     cases h1:unaryP e E (l.drop (k+1)) ns with
     | error o=>
       rw[h1] at c
       conv=>whnf
       refine .inr ?_
       exact mpan (T:=TM parM) c rfl
     | ok r=>
       obtain⟨i,r1,ns1⟩:=r
       rw[h1] at c
       have hg:=unaryP_grow hG hE h1
       rw[List.length_drop] at hg
       conv=>whnf
       refine .inl ?_
       conv=>whnf
       refine mcall (T:=TM parM) (φ:=[]) (gf:=false) c ?_
       conv=>whnf
       refine .inl ?_
       conv=>whnf
       refine mcall (T:=TM parM) (φ:=[]) (gf:=false) (x_add (ns:=ns1) (ndM 8 sMi 0 [i]) (show ns1.length≤1000000 by omega)) ?_
       conv=>whnf
       exact⟨_,rfl,rfl,rfl,rfl⟩
end
end Go.Proofs.YtdccglkagfdooaaGreatDoor
namespace Go.Proofs.YtdccglkagfdooaaGreatDoor
open Go.RowKit
section
variable {l:List Tok} {e:Int} {fs:List Fc} {f:Nat} {E:Pars}
theorem x_term (hO:PC 226 (unaryP e E) l e fs (f+1)) (hE:EatsP E) (hG:GrowP E) (hl:l.length≤1000000):PC 221 (termP e E) l e fs (f+1):=by
 intro k ns hk hf hn
 have c:=x_chain_unary hO (unaryP_eats hE) (unaryP_grow hG hE) hl 5 opMul (by decide) (by decide) hk hf hn
 rw[show chainP 5 opMul (unaryP e E) (l.drop k) ns=termP e E (l.drop k) ns from rfl] at c
 refine mesx Tryz.func221 (by kernel_rfl) (by kernel_rfl) ?_
 generalize termP e E (l.drop k) ns=R at c
 cases R with
 |error o=>
  conv=>whnf
  refine .inr ?_
  exact mpan (T:=TM parM) c rfl
 |ok r=>
  conv=>whnf
  refine .inl ?_
  conv=>whnf
  refine mcall (T:=TM parM) (φ:=[]) (gf:=false) c ?_
  conv=>whnf
  exact⟨_,rfl,rfl,rfl,rfl⟩
theorem x_sum (hO:PC 221 (termP e E) l e fs (f+1)) (hE:EatsP E) (hG:GrowP E) (hl:l.length≤1000000):PC 219 (sumP e E) l e fs (f+1):=by
 intro k ns hk hf hn
 have c:=x_chain_term hO (termP_eats hE) (termP_grow hG hE) hl 5 opAdd (by decide) (by decide) hk hf hn
 rw[show chainP 5 opAdd (termP e E) (l.drop k) ns=sumP e E (l.drop k) ns from rfl] at c
 refine mesx Tryz.func219 (by kernel_rfl) (by kernel_rfl) ?_
 generalize sumP e E (l.drop k) ns=R at c
 cases R with
 |error o=>
  conv=>whnf
  refine .inr ?_
  exact mpan (T:=TM parM) c rfl
 |ok r=>
  conv=>whnf
  refine .inl ?_
  conv=>whnf
  refine mcall (T:=TM parM) (φ:=[]) (gf:=false) c ?_
  conv=>whnf
  exact⟨_,rfl,rfl,rfl,rfl⟩
theorem x_and (hO:PC 215 (notP e E) l e fs (f+1)) (hE:EatsP E) (hG:GrowP E) (hl:l.length≤1000000):PC 202 (andP e E) l e fs (f+1):=by
 intro k ns hk hf hn
 have c:=x_chain_not hO (notP_eats hE) (notP_grow hG hE) hl 2 [wAnd] (by decide) (by decide) hk hf hn
 rw[show chainP 2 [wAnd] (notP e E) (l.drop k) ns=andP e E (l.drop k) ns from rfl] at c
 refine mesx Tryz.func202 (by kernel_rfl) (by kernel_rfl) ?_
 generalize andP e E (l.drop k) ns=R at c
 cases R with
 |error o=>
  conv=>whnf
  refine .inr ?_
  exact mpan (T:=TM parM) c rfl
 |ok r=>
  conv=>whnf
  refine .inl ?_
  conv=>whnf
  refine mcall (T:=TM parM) (φ:=[]) (gf:=false) c ?_
  conv=>whnf
  exact⟨_,rfl,rfl,rfl,rfl⟩
theorem x_expr1 (hO:PC 202 (andP e E) l e fs (f+1)) (hE:EatsP E) (hG:GrowP E) (hl:l.length≤1000000):PC 183 (orP e E) l e fs (f+1):=by
 intro k ns hk hf hn
 have c:=x_chain_and hO (andP_eats hE) (andP_grow hG hE) hl 2 [wOr] (by decide) (by decide) hk hf hn
 rw[show chainP 2 [wOr] (andP e E) (l.drop k) ns=orP e E (l.drop k) ns from rfl] at c
 refine mesx Tryz.func183 (by kernel_rfl) (by kernel_rfl) ?_
 generalize orP e E (l.drop k) ns=R at c
 cases R with
 |error o=>
  conv=>whnf
  refine .inr ?_
  exact mpan (T:=TM parM) c rfl
 |ok r=>
  conv=>whnf
  refine .inl ?_
  conv=>whnf
  refine mcall (T:=TM parM) (φ:=[]) (gf:=false) c ?_
  conv=>whnf
  exact⟨_,rfl,rfl,rfl,rfl⟩
theorem notP_drop {k:Nat} {ns:List Nd}:notP e E (l.drop k) ns=if nextB 2 [wNot] (l.drop k) then(match notP e E (l.drop (k+1)) ns with
      | .error o=> .error o
      | .ok (i,r2,ns2)=>addN (ndM 8 wNot 0 [i]) r2 ns2) else cmpP e E (l.drop k) ns:=by
 rw[nextB_one]
 rcases Nat.lt_or_ge k l.length with h|h
 ·rw[List.drop_eq_getElem_cons h]
  show(if isWrd wNot _ then _ else _)=_
  rfl
 ·rw[List.drop_eq_nil_of_le h];rfl
theorem x_not (hS:PC 219 (sumP e E) l e fs (f+1)) (hE:EatsP E) (hG:GrowP E) (hl:l.length≤1000000):∀(d:Nat) (k:Nat) (ns:List Nd),l.length - k≤d→k≤l.length→l.length - k<f+1→ns.length+(l.length - k)≤1000000→
  MEnds Tryz.prog 215 [.bx 0 0] (pM l k e ns fs) (outP l e fs (notP e E (l.drop k) ns)):=by
 intro d
 induction d with
 |zero=>?_
 |succ d ih=>?_
 all_goals
  intro k ns hd hk hf hn
  rw[notP_drop]
  refine mesx Tryz.func215 (by kernel_rfl) (by kernel_rfl) ?_
  conv=>whnf
  refine .inl ?_
  cases hb:nextB 2 [wNot] (l.drop k) with
  |false=>
   conv=>whnf
   refine mcall (T:=TM parM) (φ:=[]) (gf:=false) (x_takeN (ts:=[wNot]) hl (by simp) hb hk) ?_
   conv=>whnf
   refine known false rfl ?_
   rw[if_neg (by simp)]
   generalize hR:cmpP e E (l.drop k) ns=R
   unfold cmpP at hR
   cases h1:sumP e E (l.drop k) ns with
   |error o=>
    rw[h1] at hR
    subst hR
    conv=>whnf
    refine .inr ?_
    exact mpan (T:=TM parM) (hS.err hk hf hn h1) rfl
   |ok r=>
    obtain⟨i,r1,ns1⟩:=r
    rw[h1] at hR
    obtain⟨k1,rfl,c1,c2,c3,c4⟩:=hS.ok (sumP_eats hE) (sumP_grow hG hE) hk hf hn h1
    conv=>whnf
    refine .inl ?_
    conv=>whnf
    refine mcall (T:=TM parM) (φ:=[]) (gf:=false) c4 ?_
    dsimp only at hR
    conv=>whnf
    refine .inl ?_
    cases hc:nextB 5 opCmp (l.drop k1) with
    |false=>
     rw[if_neg (by rw[←nextB_iff (by decide),hc];simp)] at hR
     conv=>whnf
     refine mcall (T:=TM parM) (φ:=[]) (gf:=false) (x_takeN (k:=k1) (ts:=opCmp) hl (by decide) hc c2) ?_
     conv=>whnf
     refine known false rfl ?_
     conv=>whnf
     exact⟨_,by rw[←hR,outP_ok c2],rfl,rfl,rfl⟩
    |true=>
     have hk1:=nextB_yes hc
     rw[if_pos ((nextB_iff (by decide) _).1 hc),tail_drop,pText_at hk1] at hR
     conv=>whnf
     refine mcall (T:=TM parM) (φ:=[]) (gf:=false) (x_takeY (k:=k1) (ts:=opCmp) hl (by decide) hc hk1) ?_
     conv=>whnf
     refine known true rfl ?_
     cases h2:sumP e E (l.drop (k1+1)) ns1 with
     |error o=>
      rw[h2] at hR
      subst hR
      conv=>whnf
      refine .inr ?_
      exact mpan (T:=TM parM) (hS.err (by omega) (by omega) (by omega) h2) rfl
     |ok r=>
      obtain⟨j,r2,ns2⟩:=r
      rw[h2] at hR
      obtain⟨k2,rfl,d1,d2,d3,d4⟩:=hS.ok (sumP_eats hE) (sumP_grow hG hE) (by omega) (by omega) (by omega) h2
      conv=>whnf
      refine .inl ?_
      conv=>whnf
      refine mcall (T:=TM parM) (φ:=[]) (gf:=false) d4 ?_
      conv=>whnf
      refine .inl ?_
      conv=>whnf
      refine mcall (T:=TM parM) (φ:=[]) (gf:=false) (x_add (ns:=ns2) (ndM 9 l[k1].text 0 [i,j]) (show ns2.length≤1000000 by omega)) ?_
      conv=>whnf
      exact⟨_,by rw[←hR];dsimp only[addN];rw[outP_ok d2],rfl,rfl,rfl⟩
  |true=>
   have hk1:=nextB_yes hb
   first
   |exact absurd hk1 (by omega)
   | rw[if_pos rfl]
     conv=>whnf
     refine mcall (T:=TM parM) (φ:=[]) (gf:=false) (x_takeY (ts:=[wNot]) hl (by simp) hb hk1) ?_
     conv=>whnf
     refine known true rfl ?_
     have c:=ih (k+1) ns (by omega) (by omega) (by omega) (by omega)
     cases h1:notP e E (l.drop (k+1)) ns with
     | error o=>
       rw[h1] at c
       conv=>whnf
       refine .inr ?_
       exact mpan (T:=TM parM) c rfl
     | ok r=>
       obtain⟨i,r1,ns1⟩:=r
       rw[h1] at c
       have hg:=notP_grow hG hE h1
       rw[List.length_drop] at hg
       conv=>whnf
       refine .inl ?_
       conv=>whnf
       refine mcall (T:=TM parM) (φ:=[]) (gf:=false) c ?_
       conv=>whnf
       refine .inl ?_
       conv=>whnf
       refine mcall (T:=TM parM) (φ:=[]) (gf:=false) (x_add (ns:=ns1) (ndM 8 wNot 0 [i]) (show ns1.length≤1000000 by omega)) ?_
       conv=>whnf
       exact⟨_,rfl,rfl,rfl,rfl⟩
end
end Go.Proofs.YtdccglkagfdooaaGreatDoor
namespace Go.Proofs.YtdccglkagfdooaaGreatDoor
open Go.RowKit
def vqP (e:Int) (E:Pars) (r:List Tok) (ns:List Nd):PRes Int:=match E r ns with
 | .error o=> .error o
 | .ok (i,r1,ns1)=>if nextB 5 [sSc] r1 then .ok (i,r1.tail,ns1) else .error (offT e r1)
theorem valueP_eq (e:Int) (f:Nat) (kind:Int) (text:Bs) (r:List Tok) (ns:List Nd):valueP e f kind text r ns=match vqP e (exprP e f) r ns with
  | .error o=> .error o
  | .ok (i,r2,ns1)=>addN (ndM kind text 0 [i]) r2 ns1:=by
 unfold valueP vqP
 cases exprP e f r ns with
 |error o=>rfl
 |ok x=>
  obtain⟨i,r1,ns1⟩:=x
  dsimp only
  rw[nextB_one]
  unfold mustT
  by_cases h:isTk 5 sSc r1=true
  ·rw[if_pos h,if_pos h]
  ·rw[if_neg h,if_neg h]
def choiceP (_e:Int) (E Bl:Pars) (r:List Tok) (ns:List Nd):PRes Int:=match E r ns with
 | .error o=> .error o
 | .ok (c,r1,ns1)=>match Bl r1 ns1 with
  | .error o=> .error o
  | .ok (b,r2,ns2)=>
   if nextB 2 [wElse] r2 then
    (match Bl r2.tail ns2 with
    | .error o=> .error o
    | .ok (b2,r3,ns3)=>addN (ndM 15 [] 0 [c,b,b2]) r3 ns3)
   else addN (ndM 15 [] 0 [c,b]) r2 ns2
def whileP (_e:Int) (E Bl:Pars) (r:List Tok) (ns:List Nd):PRes Int:=match E r ns with
 | .error o=> .error o
 | .ok (c,r1,ns1)=>match Bl r1 ns1 with
  | .error o=> .error o
  | .ok (b,r2,ns2)=>addN (ndM 16 [] 0 [c,b]) r2 ns2
section
variable {l:List Tok} {k:Nat} {e:Int} {ns:List Nd} {fs:List Fc} {f g:Nat} {E Bl:Pars}
def outV (l:List Tok) (e:Int) (fs:List Fc):PRes Int→Except Value (V×List Bk)
 | .ok (i,r1,ns1)=> .ok (intsV [i],pM l (l.length - r1.length) e ns1 fs)
 | .error o=> .error (faultV o)
theorem x_value (hC:PC 183 E l e fs f) (hE:EatsP E) (hG:GrowP E) (hl:l.length≤1000000) (hk:k≤l.length) (hf:l.length - k<f) (hn:ns.length+(l.length - k)≤1000000):
  MEnds Tryz.prog 181 [.bx 0 0] (pM l k e ns fs) (outV l e fs (vqP e E (l.drop k) ns)):=by
 generalize hR:vqP e E (l.drop k) ns=R
 unfold vqP at hR
 refine mesx Tryz.func181 (by kernel_rfl) (by kernel_rfl) ?_
 cases h1:E (l.drop k) ns with
 |error o=>
  rw[h1] at hR
  subst hR
  conv=>whnf
  refine .inr ?_
  exact mpan (T:=TM parM) (hC.err hk hf hn h1) rfl
 |ok r=>
  obtain⟨i,r1,ns1⟩:=r
  rw[h1] at hR
  obtain⟨k1,rfl,c1,c2,c3,c4⟩:=hC.ok hE hG hk hf hn h1
  conv=>whnf
  refine .inl ?_
  conv=>whnf
  refine mcall (T:=TM parM) (φ:=[]) (gf:=false) c4 ?_
  dsimp only at hR
  cases hb:nextB 5 [sSc] (l.drop k1) with
  |false=>
   rw[if_neg (by rw[hb];simp)] at hR
   subst hR
   conv=>whnf
   refine .inr ?_
   exact mpan (T:=TM parM) (x_mustN (k:=k1) (ts:=[sSc]) hl (by simp) hb c2) rfl
  |true=>
   have hk1:=nextB_yes hb
   rw[if_pos hb] at hR
   subst hR
   conv=>whnf
   refine .inl ?_
   conv=>whnf
   refine mcall (T:=TM parM) (φ:=[]) (gf:=false) (x_mustY (k:=k1) (ts:=[sSc]) hl (by simp) hb hk1) ?_
   conv=>whnf
   refine⟨_,rfl,rfl,?_,rfl⟩
   show _=some (pM l (l.length - (l.drop k1).tail.length) e ns1 fs)
   rw[tail_drop,List.length_drop,show l.length - (l.length - (k1+1))=k1+1 by omega]
   rfl
theorem vqP_room (hE:EatsP E) (hG:GrowP E) {i:Int} {r1:List Tok} {ns1:List Nd} (h:vqP e E (l.drop k) ns= .ok (i,r1,ns1)):ns1.length+r1.length<ns.length+(l.length - k)∧r1<:+l.drop k:=by
 unfold vqP at h
 split at h
 ·cases h
 rename_i j r2 ns2 h2
 split at h
 rotate_left
 ·cases h
 rename_i hb
 cases h
 have g2:=hG h2
 have e2:=hE h2
 rw[List.length_drop] at g2
 have hne:r2≠[]:=by rintro rfl;cases hb
 have:r2.tail.length+1=r2.length:=by cases r2 with|nil=>exact absurd rfl hne|cons t r=>simp
 exact⟨by omega,(List.tail_suffix _).trans e2.suf⟩
theorem x_choice (hC:PC 183 E l e fs f) (hE:EatsP E) (hG:GrowP E) (hB:PC 120 Bl l e fs g) (hBE:EatsP Bl) (hBG:GrowP Bl) (hl:l.length≤1000000) (hk:k≤l.length) (hf:l.length - k<f) (hg:l.length - k≤g) (hn:ns.length+(l.length - k)≤999999):
  MEnds Tryz.prog 182 [.bx 0 0] (pM l k e ns fs) (outP l e fs (choiceP e E Bl (l.drop k) ns)):=by
 generalize hR:choiceP e E Bl (l.drop k) ns=R
 unfold choiceP at hR
 refine mesx Tryz.func182 (by kernel_rfl) (by kernel_rfl) ?_
 cases h1:E (l.drop k) ns with
 |error o=>
  rw[h1] at hR
  subst hR
  conv=>whnf
  refine .inr ?_
  exact mpan (T:=TM parM) (hC.err hk hf (by omega) h1) rfl
 |ok r=>
 obtain⟨c,r1,ns1⟩:=r
 rw[h1] at hR
 obtain⟨k1,rfl,c1,c2,c3,c4⟩:=hC.ok hE hG hk hf (by omega) h1
 conv=>whnf
 refine .inl ?_
 conv=>whnf
 refine mcall (T:=TM parM) (φ:=[]) (gf:=false) c4 ?_
 dsimp only at hR
 cases h2:Bl (l.drop k1) ns1 with
 |error o=>
  rw[h2] at hR
  subst hR
  conv=>whnf
  refine .inr ?_
  exact mpan (T:=TM parM) (hB.err c2 (by omega) (by omega) h2) rfl
 |ok r=>
 obtain⟨b,r2,ns2⟩:=r
 rw[h2] at hR
 obtain⟨k2,rfl,d1,d2,d3,d4⟩:=hB.ok hBE hBG c2 (by omega) (by omega) h2
 conv=>whnf
 refine .inl ?_
 conv=>whnf
 refine mcall (T:=TM parM) (φ:=[]) (gf:=false) d4 ?_
 conv=>whnf
 refine⟨of_decide_eq_true rfl,?_⟩
 dsimp only at hR
 conv=>whnf
 refine .inl ?_
 cases hb:nextB 2 [wElse] (l.drop k2) with
 |false=>
  rw[if_neg (by rw[hb];simp)] at hR
  conv=>whnf
  refine mcall (T:=TM parM) (φ:=[]) (gf:=false) (x_takeN (k:=k2) (ts:=[wElse]) hl (by simp) hb d2) ?_
  conv=>whnf
  refine known false rfl ?_
  conv=>whnf
  refine .inl ?_
  conv=>whnf
  refine mcall (T:=TM parM) (φ:=[]) (gf:=false) (x_add (ns:=ns2) (ndM 15 [] 0 [c,b]) (show ns2.length≤1000000 by omega)) ?_
  conv=>whnf
  exact⟨_,by rw[←hR,addN,outP_ok d2],rfl,rfl,rfl⟩
 |true=>
  have hk2:=nextB_yes hb
  rw[if_pos hb,tail_drop] at hR
  conv=>whnf
  refine mcall (T:=TM parM) (φ:=[]) (gf:=false) (x_takeY (k:=k2) (ts:=[wElse]) hl (by simp) hb hk2) ?_
  conv=>whnf
  refine known true rfl ?_
  cases h3:Bl (l.drop (k2+1)) ns2 with
  |error o=>
   rw[h3] at hR
   subst hR
   conv=>whnf
   refine .inr ?_
   exact mpan (T:=TM parM) (hB.err (by omega) (by omega) (by omega) h3) rfl
  |ok r=>
  obtain⟨b2,r3,ns3⟩:=r
  rw[h3] at hR
  obtain⟨k3,rfl,f1,f2,f3,f4⟩:=hB.ok hBE hBG (by omega) (by omega) (by omega) h3
  conv=>whnf
  refine .inl ?_
  conv=>whnf
  refine mcall (T:=TM parM) (φ:=[]) (gf:=false) f4 ?_
  conv=>whnf
  refine⟨of_decide_eq_true rfl,?_⟩
  conv=>whnf
  refine .inl ?_
  conv=>whnf
  refine mcall (T:=TM parM) (φ:=[]) (gf:=false) (x_add (ns:=ns3) (ndM 15 [] 0 [c,b,b2]) (show ns3.length≤1000000 by omega)) ?_
  conv=>whnf
  exact⟨_,by rw[←hR];dsimp only[addN];rw[outP_ok f2],rfl,rfl,rfl⟩
theorem x_assigns (hl:l.length≤1000000) (hk:k≤l.length):MCalls Tryz.prog 184 [.bx 0 0] (pM l k e ns fs) (boo (assigns (l.drop k))) (pM l k e ns fs):=by
 have hll:(l.map tokD).length=l.length:=List.length_map _
 refine mcx Tryz.func184 (by kernel_rfl) (by kernel_rfl) ?_
 conv=>whnf
 refine⟨none,by kernel_rfl,?_⟩
 conv=>whnf
 refine mcall (T:=TM parM) (φ:=[]) (gf:=false) (x_next 1 [] hk hl (by simp)) ?_
 cases h1:nextB 1 [] (l.drop k) with
 |false=>
  have hA:assigns (l.drop k)=false:=by
   rcases Nat.lt_or_ge k l.length with h|h
   ·rw[nextB_eq _ _ h] at h1
    rw[List.drop_eq_getElem_cons h]
    simp at h1
    simp[assigns,h1]
   ·rw[List.drop_eq_nil_of_le h];rfl
  rw[hA]
  repeat((conv=>whnf);first|refine known true rfl ?_|refine known false rfl ?_)
  conv=>whnf
  exact⟨rfl,rfl,rfl⟩
 |true=>
  have hlt:=nextB_yes h1
  have hw:IntKind.i64.wrap (((k:Nat):Int)+1)=((k+1:Nat):Int):=wrap_succ (by omega)
  have hkd:l[k].kind=1:=by rw[nextB_eq _ _ hlt] at h1;simpa using h1
  have hA:assigns (l.drop k)=isSym sEq1 (l.drop (k+1)):=by rw[List.drop_eq_getElem_cons hlt];simp[assigns,hkd]
  rw[hA]
  conv=>whnf
  refine known true rfl ?_
  conv=>whnf
  rw[hw]
  rcases Nat.lt_or_ge (k+1) l.length with h2|h2
  rotate_left
  ·rw[isSym,isTk_end _ _ h2]
   conv=>whnf
   refine known false (by simp;omega) ?_
   repeat((conv=>whnf);first|refine known true rfl ?_|refine known false rfl ?_)
   conv=>whnf
   exact⟨rfl,rfl,rfl⟩
  rw[isSym,isTk_drop _ _ h2]
  conv=>whnf
  refine known true (by simp;omega) ?_
  conv=>whnf
  rw[hw]
  conv=>whnf
  refine⟨by omega,_,get_map tokD h2,?_⟩
  conv=>whnf
  rintro(_|_) h3
  ·rw[show decide (l[k+1].kind=5)=false from by simpa using h3,Bool.false_and]
   repeat((conv=>whnf);first|refine known true rfl ?_|refine known false rfl ?_)
   conv=>whnf
   exact⟨rfl,rfl,rfl⟩
  rw[show decide (l[k+1].kind=5)=true from by simpa using h3,Bool.true_and]
  conv=>whnf
  rw[hw]
  conv=>whnf
  refine⟨by omega,_,get_map tokD h2,?_⟩
  conv=>whnf
  exact⟨rfl,rfl,by rw[show(l[k+1].text==sEq1)=((mk l[k+1].text).toList==(mk sEq1).toList) from(sEq_mk _ _).symm];rfl⟩
end
end Go.Proofs.YtdccglkagfdooaaGreatDoor
namespace Go.Proofs.YtdccglkagfdooaaGreatDoor
open Go.RowKit
def letQ (e:Int) (f:Nat) (r:List Tok) (ns:List Nd):PRes Int:=
 if nextB 1 [] r then(if nextB 5 [sEq1] r.tail then valueP e f 13 (pText r) r.tail.tail ns else .error (offT e r.tail)) else .error (offT e r)
def stmtQ (e:Int) (f:Nat) (Bl:Pars) (r:List Tok) (ns:List Nd):PRes Int:=
 if nextB 2 [wLet,wIf,wWhile,wReturn] r then
  (if pText r==wLet then letQ e f r.tail ns
  else if pText r==wIf then choiceP e (exprP e f) Bl r.tail ns
  else if pText r==wWhile then whileP e (exprP e f) Bl r.tail ns
  else valueP e f 17 [] r.tail ns)
 else if assigns r then valueP e f 14 (pText r) r.tail.tail ns
 else valueP e f 18 [] r ns
theorem letQ_eq (e:Int) (f:Nat) (r:List Tok) (ns:List Nd):(match mustK e 1 r with
  | .error o=>(.error o:PRes Int)
  | .ok (s,r1)=>match mustT e 5 sEq1 r1 with
   | .error o=> .error o
   | .ok r2=>valueP e f 13 s r2 ns)=letQ e f r ns:=by
 unfold letQ mustK mustT
 cases r with
 |nil=>simp[nextB,pKind]
 |cons t r=>
  rw[nextB_one]
  by_cases h:t.kind=1
  ·by_cases h2:isTk 5 sEq1 r=true
   ·simp[nextB,pKind,h,h2]
   ·simp[nextB,pKind,h,h2]
  ·simp[nextB,pKind,h]
theorem choice_eq (e:Int) (f:Nat) (Bl:Pars) (r:List Tok) (ns:List Nd):(match exprP e f r ns with
  | .error o=>(.error o:PRes Int)
  | .ok (c,r1,ns1)=>match Bl r1 ns1 with
   | .error o=> .error o
   | .ok (b,r2,ns2)=>
    if isWrd wElse r2 then
     (match Bl r2.tail ns2 with
     | .error o=> .error o
     | .ok (b2,r3,ns3)=>addN (ndM 15 [] 0 [c,b,b2]) r3 ns3)
    else addN (ndM 15 [] 0 [c,b]) r2 ns2)=choiceP e (exprP e f) Bl r ns:=by
 unfold choiceP
 simp only[nextB_one]
 all_goals rfl
theorem stmtP_eq (e:Int) (f:Nat) (Bl:Pars) (r:List Tok) (ns:List Nd):stmtP e f Bl r ns=stmtQ e f Bl r ns:=by
 unfold stmtP stmtQ
 cases r with
 |nil=>rfl
 |cons t r=>
  have w0:∀s,isWrd s (t::r)=(decide (t.kind=2)&&(t.text==s)):=fun s=>rfl
  have n0:nextB 2 [wLet,wIf,wWhile,wReturn] (t::r)=(decide (t.kind=2)&&[wLet,wIf,wWhile,wReturn].contains t.text):=rfl
  rw[w0,w0,w0,w0,n0]
  have p0:pText (t::r)=t.text:=rfl
  by_cases h2:t.kind=2
  ·by_cases a1:t.text=wLet
   ·rw[if_pos (by simp[h2,a1]),if_pos (by simp[h2,a1]),if_pos (by simp[p0,a1])]
    exact letQ_eq e f r ns
   rw[if_neg (by simp[a1])]
   by_cases a2:t.text=wIf
   ·rw[if_pos (by simp[h2,a2]),if_pos (by simp[h2,a2]),if_neg (by simp[p0,a1]),if_pos (by simp[p0,a2])]
    exact choice_eq e f Bl r ns
   rw[if_neg (by simp[a2])]
   by_cases a3:t.text=wWhile
   ·rw[if_pos (by simp[h2,a3]),if_pos (by simp[h2,a3]),if_neg (by simp[p0,a1]),if_neg (by simp[p0,a2]),if_pos (by simp[p0,a3])]
    rfl
   rw[if_neg (by simp[a3])]
   by_cases a4:t.text=wReturn
   ·rw[if_pos (by simp[h2,a4]),if_pos (by simp[h2,a4]),if_neg (by simp[p0,a1]),if_neg (by simp[p0,a2]),if_neg (by simp[p0,a3])]
   rw[if_neg (by simp[a4]),if_neg (show¬((decide (t.kind=2)&&[wLet,wIf,wWhile,wReturn].contains t.text)=true) by simp[a1,a2,a3,a4])]
  ·rw[if_neg (show¬((decide (t.kind=2)&&(t.text==wLet))=true) by simp[h2]),if_neg (show¬((decide (t.kind=2)&&(t.text==wIf))=true) by simp[h2]),if_neg (show¬((decide (t.kind=2)&&(t.text==wWhile))=true) by simp[h2]),if_neg (show¬((decide (t.kind=2)&&(t.text==wReturn))=true) by simp[h2]),if_neg (show¬((decide (t.kind=2)&&[wLet,wIf,wWhile,wReturn].contains t.text)=true) by simp[h2])]
end Go.Proofs.YtdccglkagfdooaaGreatDoor
