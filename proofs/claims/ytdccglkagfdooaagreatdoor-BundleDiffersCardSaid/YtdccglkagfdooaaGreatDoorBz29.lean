/- Texts joined by pack.py: XSyB XSyPG XSyD XSyE -/
import Derived.Test.YtdccglkagfdooaaGreatDoorBz18
import Derived.Test.YtdccglkagfdooaaGreatDoorBz24
import Derived.Test.YtdccglkagfdooaaGreatDoorBz25
set_option maxHeartbeats 8000000
set_option maxRecDepth 100000
namespace Go.Proofs.YtdccglkagfdooaaGreatDoor
open Go.RowKit
def PC (F:FuncId) (p:Pars) (l:List Tok) (e:Int) (fs:List Fc) (f:Nat):Prop:=
 ∀(k:Nat) (ns:List Nd),k≤l.length→l.length - k<f→ns.length+(l.length - k)≤1000000→MEnds Tryz.prog F [.bx 0 0] (pM l k e ns fs) (outP l e fs (p (l.drop k) ns))
section
variable {l:List Tok} {k:Nat} {e:Int} {ns:List Nd} {fs:List Fc} {F:FuncId} {p:Pars} {f:Nat}
theorem suf_drop {r:List Tok} (h:r<:+l.drop k):r=l.drop (l.length - r.length):=by
 obtain⟨a,ha⟩:=h
 have:l=(l.take k++a)++r:=by rw[List.append_assoc,ha,List.take_append_drop]
 have hl:l.length=(l.take k++a).length+r.length:=by rw[←List.length_append,←this]
 rw[show l.length - r.length=(l.take k++a).length by omega]
 have h2:=congrArg (List.drop (l.take k++a).length) this
 rw[List.drop_left] at h2
 exact h2.symm
theorem PC.err (h:PC F p l e fs f) (hk:k≤l.length) (hf:l.length - k<f) (hn:ns.length+(l.length - k)≤1000000) {o:Int} (hp:p (l.drop k) ns= .error o):MPans Tryz.prog F [.bx 0 0] (pM l k e ns fs) (faultV o):=by
 have:=h k ns hk hf hn
 rw[hp] at this
 exact this
theorem PC.ok (h:PC F p l e fs f) (hE:EatsP p) (hG:GrowP p) (hk:k≤l.length) (hf:l.length - k<f) (hn:ns.length+(l.length - k)≤1000000) {i:Int} {r1:List Tok} {ns1:List Nd} (hp:p (l.drop k) ns= .ok (i,r1,ns1)):
  ∃k1,r1=l.drop k1∧k<k1∧k1≤l.length∧ns1.length+(l.length - k1)≤ns.length+(l.length - k)∧MCalls Tryz.prog F [.bx 0 0] (pM l k e ns fs) (int i) (pM l k1 e ns1 fs):=by
 have:=h k ns hk hf hn
 rw[hp] at this
 have h1:=hE hp
 have h2:=hG hp
 have h3:=h1.lt
 rw[List.length_drop] at h2 h3
 exact⟨l.length - r1.length,suf_drop h1.suf,by omega,by omega,by omega,this⟩
theorem outP_ok {i:Int} {k1:Nat} {ns1:List Nd} (hk:k1≤l.length):outP l e fs (.ok (i,l.drop k1,ns1))= .ok (int i,pM l k1 e ns1 fs):=by
 simp only[outP,List.length_drop]
 rw[show l.length - (l.length - k1)=k1 by omega]
theorem nextB_iff {K:Int} {ts:List Bs} (ht:ts≠[]) (r:List Tok):nextB K ts r=true↔(pKind r=K∧ts.contains (pText r)=true∧r≠[]):=by
 cases r with
 |nil=>simp[nextB]
 |cons t r=>
  have:ts.isEmpty=false:=by cases ts with|nil=>exact absurd rfl ht|cons=>rfl
  simp[nextB,pKind,pText,this]
theorem tail_drop:(l.drop k).tail=l.drop (k+1):=by rw[List.tail_drop]
theorem pText_at (h:k<l.length):pText (l.drop k)=l[k].text:=by rw[List.drop_eq_getElem_cons h];rfl
end
theorem x_chain_unary {l:List Tok} {k:Nat} {e:Int} {ns:List Nd} {fs:List Fc} {f:Nat} {O:Pars} (hO:PC 226 O l e fs f) (hE:EatsP O) (hG:GrowP O) (hl:l.length≤1000000) (K:Int) (ts:List Bs) (ht:ts.length≤100) (ht0:ts≠[])
  (hk:k≤l.length) (hf:l.length - k<f) (hn:ns.length+(l.length - k)≤1000000):
  MEnds Tryz.prog 201 [.bx 0 0,.fn 226 1 [.bx 0 0],int K,tsV ts] (pM l k e ns fs) (outP l e fs (chainP K ts O (l.drop k) ns)):=by
 generalize hR:chainP K ts O (l.drop k) ns=R
 unfold chainP at hR
 refine mesx Tryz.func201 (by kernel_rfl) (by kernel_rfl) ?_
 cases h1:O (l.drop k) ns with
 |error o=>
  rw[h1] at hR
  subst hR
  conv=>whnf
  refine .inr ?_
  exact mpan (T:=TM parM) (hO.err hk hf hn h1) rfl
 |ok r=>
  obtain⟨i,r1,ns1⟩:=r
  rw[h1] at hR
  obtain⟨k1,rfl,c1,c2,c3,c4⟩:=hO.ok hE hG hk hf hn h1
  conv=>whnf
  refine .inl ?_
  conv=>whnf
  refine mcall (T:=TM parM) (φ:=[]) (gf:=false) c4 ?_
  conv=>whnf
  refine⟨[],Nat×Int×List Nd,fun⟨k,i,ns⟩=>[(9,int i)],fun⟨k,i,ns⟩=>[(35,some (pBox l k e 36 37)),(36,some (nRow ns)),(37,some (fRow fs))],
   fun⟨k,i,ns⟩=>k1≤k∧k≤l.length∧ns.length+(l.length - k)≤1000000∧∃f',l.length - k≤f'∧chainF K ts O f' i (l.drop k) ns=R,fun x=>l.length - x.1,(k1,i,ns1),⟨Nat.le_refl _,c2,by omega,_,by rw[List.length_drop];exact Nat.le_refl _,hR⟩,?_,?_⟩
  ·refine⟨rfl,?_,?_⟩<;>repeat' (first|exact trivial|exact rfl|refine and_rfl ?_|refine and_two ?_ ?_)
  clear h1 hR c2 c3 c4 hn
  rintro⟨k2,i,ns⟩ ⟨b0,b1,b2,f',b3,b4⟩
  conv=>whnf
  refine .inl ?_
  cases hb:nextB K ts (l.drop k2) with
  |false=>
   conv=>whnf
   refine mcall (T:=TM parM) (φ:=[]) (gf:=false) (x_takeN hl ht hb b1) ?_
   conv=>whnf
   refine known true rfl ?_
   have hR:R= .ok (i,l.drop k2,ns):=by
    rw[←b4]
    cases f' with
    |zero=>rfl
    |succ f'=>
     unfold chainF
     rw[if_neg]
     rw[←nextB_iff ht0,hb];simp
   conv=>whnf
   exact⟨_,by rw[hR,outP_ok b1],rfl,rfl,rfl⟩
  |true=>
   have hk2:=nextB_yes hb
   conv=>whnf
   refine mcall (T:=TM parM) (φ:=[]) (gf:=false) (x_takeY hl ht hb hk2) ?_
   conv=>whnf
   refine known false rfl ?_
   obtain⟨f',rfl⟩:∃g,f'=g+1:=⟨f' - 1,by omega⟩
   unfold chainF at b4
   rw[if_pos ((nextB_iff ht0 _).1 hb),tail_drop,pText_at hk2] at b4
   cases h2:O (l.drop (k2+1)) ns with
   |error o=>
    rw[h2] at b4
    subst b4
    conv=>whnf
    refine .inr ?_
    exact mpan (T:=TM parM) (hO.err (by omega) (by omega) (by omega) h2) rfl
   |ok r=>
    obtain⟨j,r3,ns3⟩:=r
    rw[h2] at b4
    obtain⟨k3,rfl,d1,d2,d3,d4⟩:=hO.ok hE hG (by omega) (by omega) (by omega) h2
    conv=>whnf
    refine .inl ?_
    conv=>whnf
    refine mcall (T:=TM parM) (φ:=[]) (gf:=false) d4 ?_
    conv=>whnf
    refine .inl ?_
    conv=>whnf
    refine mcall (T:=TM parM) (φ:=[]) (gf:=false) (x_add (ns:=ns3) (ndM 9 l[k2].text 0 [i,j]) (show ns3.length≤1000000 by omega)) ?_
    conv=>whnf
    refine⟨(k3,(ns3.length:Nat),ns3++[ndM 9 l[k2].text 0 [i,j]]),⟨by omega,d2,by rw[List.length_append];simp;omega,f',by omega,b4⟩,by dsimp only;omega,?_⟩
    refine⟨rfl,?_,?_⟩<;>repeat' (first|exact trivial|exact rfl|refine and_rfl ?_|refine and_two ?_ ?_)
theorem x_chain_term {l:List Tok} {k:Nat} {e:Int} {ns:List Nd} {fs:List Fc} {f:Nat} {O:Pars} (hO:PC 221 O l e fs f) (hE:EatsP O) (hG:GrowP O) (hl:l.length≤1000000) (K:Int) (ts:List Bs) (ht:ts.length≤100) (ht0:ts≠[])
  (hk:k≤l.length) (hf:l.length - k<f) (hn:ns.length+(l.length - k)≤1000000):
  MEnds Tryz.prog 201 [.bx 0 0,.fn 221 1 [.bx 0 0],int K,tsV ts] (pM l k e ns fs) (outP l e fs (chainP K ts O (l.drop k) ns)):=by
 generalize hR:chainP K ts O (l.drop k) ns=R
 unfold chainP at hR
 refine mesx Tryz.func201 (by kernel_rfl) (by kernel_rfl) ?_
 cases h1:O (l.drop k) ns with
 |error o=>
  rw[h1] at hR
  subst hR
  conv=>whnf
  refine .inr ?_
  exact mpan (T:=TM parM) (hO.err hk hf hn h1) rfl
 |ok r=>
  obtain⟨i,r1,ns1⟩:=r
  rw[h1] at hR
  obtain⟨k1,rfl,c1,c2,c3,c4⟩:=hO.ok hE hG hk hf hn h1
  conv=>whnf
  refine .inl ?_
  conv=>whnf
  refine mcall (T:=TM parM) (φ:=[]) (gf:=false) c4 ?_
  conv=>whnf
  refine⟨[],Nat×Int×List Nd,fun⟨k,i,ns⟩=>[(9,int i)],fun⟨k,i,ns⟩=>[(35,some (pBox l k e 36 37)),(36,some (nRow ns)),(37,some (fRow fs))],
   fun⟨k,i,ns⟩=>k1≤k∧k≤l.length∧ns.length+(l.length - k)≤1000000∧∃f',l.length - k≤f'∧chainF K ts O f' i (l.drop k) ns=R,fun x=>l.length - x.1,(k1,i,ns1),⟨Nat.le_refl _,c2,by omega,_,by rw[List.length_drop];exact Nat.le_refl _,hR⟩,?_,?_⟩
  ·refine⟨rfl,?_,?_⟩<;>repeat' (first|exact trivial|exact rfl|refine and_rfl ?_|refine and_two ?_ ?_)
  clear h1 hR c2 c3 c4 hn
  rintro⟨k2,i,ns⟩ ⟨b0,b1,b2,f',b3,b4⟩
  conv=>whnf
  refine .inl ?_
  cases hb:nextB K ts (l.drop k2) with
  |false=>
   conv=>whnf
   refine mcall (T:=TM parM) (φ:=[]) (gf:=false) (x_takeN hl ht hb b1) ?_
   conv=>whnf
   refine known true rfl ?_
   have hR:R= .ok (i,l.drop k2,ns):=by
    rw[←b4]
    cases f' with
    |zero=>rfl
    |succ f'=>
     unfold chainF
     rw[if_neg]
     rw[←nextB_iff ht0,hb];simp
   conv=>whnf
   exact⟨_,by rw[hR,outP_ok b1],rfl,rfl,rfl⟩
  |true=>
   have hk2:=nextB_yes hb
   conv=>whnf
   refine mcall (T:=TM parM) (φ:=[]) (gf:=false) (x_takeY hl ht hb hk2) ?_
   conv=>whnf
   refine known false rfl ?_
   obtain⟨f',rfl⟩:∃g,f'=g+1:=⟨f' - 1,by omega⟩
   unfold chainF at b4
   rw[if_pos ((nextB_iff ht0 _).1 hb),tail_drop,pText_at hk2] at b4
   cases h2:O (l.drop (k2+1)) ns with
   |error o=>
    rw[h2] at b4
    subst b4
    conv=>whnf
    refine .inr ?_
    exact mpan (T:=TM parM) (hO.err (by omega) (by omega) (by omega) h2) rfl
   |ok r=>
    obtain⟨j,r3,ns3⟩:=r
    rw[h2] at b4
    obtain⟨k3,rfl,d1,d2,d3,d4⟩:=hO.ok hE hG (by omega) (by omega) (by omega) h2
    conv=>whnf
    refine .inl ?_
    conv=>whnf
    refine mcall (T:=TM parM) (φ:=[]) (gf:=false) d4 ?_
    conv=>whnf
    refine .inl ?_
    conv=>whnf
    refine mcall (T:=TM parM) (φ:=[]) (gf:=false) (x_add (ns:=ns3) (ndM 9 l[k2].text 0 [i,j]) (show ns3.length≤1000000 by omega)) ?_
    conv=>whnf
    refine⟨(k3,(ns3.length:Nat),ns3++[ndM 9 l[k2].text 0 [i,j]]),⟨by omega,d2,by rw[List.length_append];simp;omega,f',by omega,b4⟩,by dsimp only;omega,?_⟩
    refine⟨rfl,?_,?_⟩<;>repeat' (first|exact trivial|exact rfl|refine and_rfl ?_|refine and_two ?_ ?_)
theorem x_chain_not {l:List Tok} {k:Nat} {e:Int} {ns:List Nd} {fs:List Fc} {f:Nat} {O:Pars} (hO:PC 215 O l e fs f) (hE:EatsP O) (hG:GrowP O) (hl:l.length≤1000000) (K:Int) (ts:List Bs) (ht:ts.length≤100) (ht0:ts≠[])
  (hk:k≤l.length) (hf:l.length - k<f) (hn:ns.length+(l.length - k)≤1000000):
  MEnds Tryz.prog 201 [.bx 0 0,.fn 215 1 [.bx 0 0],int K,tsV ts] (pM l k e ns fs) (outP l e fs (chainP K ts O (l.drop k) ns)):=by
 generalize hR:chainP K ts O (l.drop k) ns=R
 unfold chainP at hR
 refine mesx Tryz.func201 (by kernel_rfl) (by kernel_rfl) ?_
 cases h1:O (l.drop k) ns with
 |error o=>
  rw[h1] at hR
  subst hR
  conv=>whnf
  refine .inr ?_
  exact mpan (T:=TM parM) (hO.err hk hf hn h1) rfl
 |ok r=>
  obtain⟨i,r1,ns1⟩:=r
  rw[h1] at hR
  obtain⟨k1,rfl,c1,c2,c3,c4⟩:=hO.ok hE hG hk hf hn h1
  conv=>whnf
  refine .inl ?_
  conv=>whnf
  refine mcall (T:=TM parM) (φ:=[]) (gf:=false) c4 ?_
  conv=>whnf
  refine⟨[],Nat×Int×List Nd,fun⟨k,i,ns⟩=>[(9,int i)],fun⟨k,i,ns⟩=>[(35,some (pBox l k e 36 37)),(36,some (nRow ns)),(37,some (fRow fs))],
   fun⟨k,i,ns⟩=>k1≤k∧k≤l.length∧ns.length+(l.length - k)≤1000000∧∃f',l.length - k≤f'∧chainF K ts O f' i (l.drop k) ns=R,fun x=>l.length - x.1,(k1,i,ns1),⟨Nat.le_refl _,c2,by omega,_,by rw[List.length_drop];exact Nat.le_refl _,hR⟩,?_,?_⟩
  ·refine⟨rfl,?_,?_⟩<;>repeat' (first|exact trivial|exact rfl|refine and_rfl ?_|refine and_two ?_ ?_)
  clear h1 hR c2 c3 c4 hn
  rintro⟨k2,i,ns⟩ ⟨b0,b1,b2,f',b3,b4⟩
  conv=>whnf
  refine .inl ?_
  cases hb:nextB K ts (l.drop k2) with
  |false=>
   conv=>whnf
   refine mcall (T:=TM parM) (φ:=[]) (gf:=false) (x_takeN hl ht hb b1) ?_
   conv=>whnf
   refine known true rfl ?_
   have hR:R= .ok (i,l.drop k2,ns):=by
    rw[←b4]
    cases f' with
    |zero=>rfl
    |succ f'=>
     unfold chainF
     rw[if_neg]
     rw[←nextB_iff ht0,hb];simp
   conv=>whnf
   exact⟨_,by rw[hR,outP_ok b1],rfl,rfl,rfl⟩
  |true=>
   have hk2:=nextB_yes hb
   conv=>whnf
   refine mcall (T:=TM parM) (φ:=[]) (gf:=false) (x_takeY hl ht hb hk2) ?_
   conv=>whnf
   refine known false rfl ?_
   obtain⟨f',rfl⟩:∃g,f'=g+1:=⟨f' - 1,by omega⟩
   unfold chainF at b4
   rw[if_pos ((nextB_iff ht0 _).1 hb),tail_drop,pText_at hk2] at b4
   cases h2:O (l.drop (k2+1)) ns with
   |error o=>
    rw[h2] at b4
    subst b4
    conv=>whnf
    refine .inr ?_
    exact mpan (T:=TM parM) (hO.err (by omega) (by omega) (by omega) h2) rfl
   |ok r=>
    obtain⟨j,r3,ns3⟩:=r
    rw[h2] at b4
    obtain⟨k3,rfl,d1,d2,d3,d4⟩:=hO.ok hE hG (by omega) (by omega) (by omega) h2
    conv=>whnf
    refine .inl ?_
    conv=>whnf
    refine mcall (T:=TM parM) (φ:=[]) (gf:=false) d4 ?_
    conv=>whnf
    refine .inl ?_
    conv=>whnf
    refine mcall (T:=TM parM) (φ:=[]) (gf:=false) (x_add (ns:=ns3) (ndM 9 l[k2].text 0 [i,j]) (show ns3.length≤1000000 by omega)) ?_
    conv=>whnf
    refine⟨(k3,(ns3.length:Nat),ns3++[ndM 9 l[k2].text 0 [i,j]]),⟨by omega,d2,by rw[List.length_append];simp;omega,f',by omega,b4⟩,by dsimp only;omega,?_⟩
    refine⟨rfl,?_,?_⟩<;>repeat' (first|exact trivial|exact rfl|refine and_rfl ?_|refine and_two ?_ ?_)
theorem x_chain_and {l:List Tok} {k:Nat} {e:Int} {ns:List Nd} {fs:List Fc} {f:Nat} {O:Pars} (hO:PC 202 O l e fs f) (hE:EatsP O) (hG:GrowP O) (hl:l.length≤1000000) (K:Int) (ts:List Bs) (ht:ts.length≤100) (ht0:ts≠[])
  (hk:k≤l.length) (hf:l.length - k<f) (hn:ns.length+(l.length - k)≤1000000):
  MEnds Tryz.prog 201 [.bx 0 0,.fn 202 1 [.bx 0 0],int K,tsV ts] (pM l k e ns fs) (outP l e fs (chainP K ts O (l.drop k) ns)):=by
 generalize hR:chainP K ts O (l.drop k) ns=R
 unfold chainP at hR
 refine mesx Tryz.func201 (by kernel_rfl) (by kernel_rfl) ?_
 cases h1:O (l.drop k) ns with
 |error o=>
  rw[h1] at hR
  subst hR
  conv=>whnf
  refine .inr ?_
  exact mpan (T:=TM parM) (hO.err hk hf hn h1) rfl
 |ok r=>
  obtain⟨i,r1,ns1⟩:=r
  rw[h1] at hR
  obtain⟨k1,rfl,c1,c2,c3,c4⟩:=hO.ok hE hG hk hf hn h1
  conv=>whnf
  refine .inl ?_
  conv=>whnf
  refine mcall (T:=TM parM) (φ:=[]) (gf:=false) c4 ?_
  conv=>whnf
  refine⟨[],Nat×Int×List Nd,fun⟨k,i,ns⟩=>[(9,int i)],fun⟨k,i,ns⟩=>[(35,some (pBox l k e 36 37)),(36,some (nRow ns)),(37,some (fRow fs))],
   fun⟨k,i,ns⟩=>k1≤k∧k≤l.length∧ns.length+(l.length - k)≤1000000∧∃f',l.length - k≤f'∧chainF K ts O f' i (l.drop k) ns=R,fun x=>l.length - x.1,(k1,i,ns1),⟨Nat.le_refl _,c2,by omega,_,by rw[List.length_drop];exact Nat.le_refl _,hR⟩,?_,?_⟩
  ·refine⟨rfl,?_,?_⟩<;>repeat' (first|exact trivial|exact rfl|refine and_rfl ?_|refine and_two ?_ ?_)
  clear h1 hR c2 c3 c4 hn
  rintro⟨k2,i,ns⟩ ⟨b0,b1,b2,f',b3,b4⟩
  conv=>whnf
  refine .inl ?_
  cases hb:nextB K ts (l.drop k2) with
  |false=>
   conv=>whnf
   refine mcall (T:=TM parM) (φ:=[]) (gf:=false) (x_takeN hl ht hb b1) ?_
   conv=>whnf
   refine known true rfl ?_
   have hR:R= .ok (i,l.drop k2,ns):=by
    rw[←b4]
    cases f' with
    |zero=>rfl
    |succ f'=>
     unfold chainF
     rw[if_neg]
     rw[←nextB_iff ht0,hb];simp
   conv=>whnf
   exact⟨_,by rw[hR,outP_ok b1],rfl,rfl,rfl⟩
  |true=>
   have hk2:=nextB_yes hb
   conv=>whnf
   refine mcall (T:=TM parM) (φ:=[]) (gf:=false) (x_takeY hl ht hb hk2) ?_
   conv=>whnf
   refine known false rfl ?_
   obtain⟨f',rfl⟩:∃g,f'=g+1:=⟨f' - 1,by omega⟩
   unfold chainF at b4
   rw[if_pos ((nextB_iff ht0 _).1 hb),tail_drop,pText_at hk2] at b4
   cases h2:O (l.drop (k2+1)) ns with
   |error o=>
    rw[h2] at b4
    subst b4
    conv=>whnf
    refine .inr ?_
    exact mpan (T:=TM parM) (hO.err (by omega) (by omega) (by omega) h2) rfl
   |ok r=>
    obtain⟨j,r3,ns3⟩:=r
    rw[h2] at b4
    obtain⟨k3,rfl,d1,d2,d3,d4⟩:=hO.ok hE hG (by omega) (by omega) (by omega) h2
    conv=>whnf
    refine .inl ?_
    conv=>whnf
    refine mcall (T:=TM parM) (φ:=[]) (gf:=false) d4 ?_
    conv=>whnf
    refine .inl ?_
    conv=>whnf
    refine mcall (T:=TM parM) (φ:=[]) (gf:=false) (x_add (ns:=ns3) (ndM 9 l[k2].text 0 [i,j]) (show ns3.length≤1000000 by omega)) ?_
    conv=>whnf
    refine⟨(k3,(ns3.length:Nat),ns3++[ndM 9 l[k2].text 0 [i,j]]),⟨by omega,d2,by rw[List.length_append];simp;omega,f',by omega,b4⟩,by dsimp only;omega,?_⟩
    refine⟨rfl,?_,?_⟩<;>repeat' (first|exact trivial|exact rfl|refine and_rfl ?_|refine and_two ?_ ?_)
end Go.Proofs.YtdccglkagfdooaaGreatDoor
namespace Go.Proofs.YtdccglkagfdooaaGreatDoor
def Atv (e o:Int) (r:List Tok):Prop:=o=e∨∃t∈r,o=t.at_
theorem Atv.suf {e o:Int} {r r1:List Tok} (h:Atv e o r1) (hs:r1<:+r):Atv e o r:=by
 rcases h with h|⟨t,h1,h2⟩
 ·exact .inl h
 ·exact .inr ⟨t,hs.subset h1,h2⟩
theorem Atv.eats {e o:Int} {r r1:List Tok} (h:Atv e o r1) (hs:Eats r r1):Atv e o r:=h.suf hs.suf
theorem Atv.off (e:Int):∀r:List Tok,Atv e (offT e r) r
 |[]=> .inl rfl
 |t::r=> .inr ⟨t,by simp,rfl⟩
theorem Atv.err {e o:Int} {α:Type} {r:List Tok} (h:(Except.error (offT e r):Except Int α)= .error o):Atv e o r:=by
 cases h;exact .off e r
def AtP (e:Int) (p:Pars):Prop:=∀{r ns o},p r ns= .error o→Atv e o r
theorem mustT_at {e k:Int} {s:Bs} {r:List Tok} {o:Int} (h:mustT e k s r= .error o):Atv e o r:=by
 unfold mustT at h
 split at h
 ·cases h
 ·exact .err h
section
variable {e:Int} {E:Pars} (hE:AtP e E) (hC:EatsP E)
include hE hC
theorem listF_at {fin:Bs}:∀(f:Nat) {l:List Int} {r:List Tok} {ns:List Nd} {o:Int},listF e fin E f l r ns= .error o→Atv e o r
 |0,l,r,ns,o,h=> .err h
 |f+1,l,r,ns,o,h=>by
  simp only[listF] at h
  split at h
  ·rename_i h1;cases h;exact hE h1
  ·rename_i i r1 ns1 h1
   have h2:=hC h1
   split at h
   ·cases h
   ·split at h
    ·rename_i hc
     exact(listF_at f h).eats (h2.trans (.of_tk hc))
    ·exact(Atv.err h).eats h2
theorem listP_at {fin:Bs} {r:List Tok} {ns:List Nd} {o:Int} (h:listP e fin E r ns= .error o):Atv e o r:=by
 unfold listP at h
 split at h
 ·cases h
 ·exact listF_at hE hC _ h
theorem keyF_at:∀(f:Nat) {ks:List Bs} {l:List Int} {r:List Tok} {ns:List Nd} {o:Int},keyF e E f ks l r ns= .error o→Atv e o r
 |0,ks,l,r,ns,o,h=> .err h
 |f+1,ks,l,r,ns,o,h=>by
  simp only[keyF] at h
  split at h
  rotate_left
  ·exact .err h
  rename_i hk
  have h0:=Eats.of_tail hk.2.1
  split at h
  ·rename_i h1;cases h;exact(mustT_at h1).eats h0
  rename_i r1 h1
  have h2:=h0.trans (mustT_eats h1)
  split at h
  ·rename_i h3;cases h;exact(hE h3).eats h2
  rename_i i r3 ns3 h3
  have h4:=h2.trans (hC h3)
  split at h
  ·cases h
  split at h
  ·rename_i hc
   exact(keyF_at f h).eats (h4.trans (.of_tk hc))
  ·exact(Atv.err h).eats h4
theorem keyP_at {r:List Tok} {ns:List Nd} {o:Int} (h:keyP e E r ns= .error o):Atv e o r:=by
 unfold keyP at h
 split at h
 ·cases h
 ·exact keyF_at hE hC _ h
theorem primP_at:AtP e (primP e E):=by
 intro r ns o h
 unfold primP at h
 cases r with
 |nil=>cases h;exact .inl rfl
 |cons t r=>
  have h0:Eats (t::r) r:= .of_tail (by simp)
  dsimp only at h
  split at h
  ·cases h
  split at h
  ·cases h
  split at h
  ·cases h
  split at h
  ·cases h
  split at h
  ·cases h
  split at h
  ·split at h
   ·rename_i hk
    split at h
    ·rename_i h2;cases h;exact(listP_at hE hC h2).eats (h0.trans (.of_tk hk))
    ·cases h
   ·cases h
  split at h
  ·split at h
   ·rename_i h2;cases h;exact(mustT_at h2).eats h0
   ·rename_i h2
    split at h
    ·rename_i h3;cases h;exact(listP_at hE hC h3).eats (h0.trans (mustT_eats h2))
    ·cases h
  split at h
  ·split at h
   ·rename_i h2;cases h;exact(listP_at hE hC h2).eats h0
   ·cases h
  split at h
  ·exact(keyP_at hE hC h).eats h0
  split at h
  ·split at h
   ·rename_i h2;cases h;exact(hE h2).eats h0
   ·rename_i h2
    split at h
    ·rename_i h3;cases h;exact(mustT_at h3).eats (h0.trans (hC h2))
    ·cases h
  ·cases h;exact .inr ⟨t,by simp,rfl⟩
theorem postF_at:∀(f:Nat) {i:Int} {r:List Tok} {ns:List Nd} {o:Int},postF e E f i r ns= .error o→Atv e o r
 |0,i,r,ns,o,h=>by cases h
 |f+1,i,r,ns,o,h=>by
  simp only[postF] at h
  split at h
  rotate_left
  ·cases h
  rename_i hk
  have h0:Eats r r.tail:= .of_tk hk
  split at h
  ·rename_i h1;cases h;exact(hE h1).eats h0
  rename_i k r1 ns1 h1
  have h2:=h0.trans (hC h1)
  split at h
  ·rename_i h3;cases h;exact(mustT_at h3).eats h2
  ·rename_i h3
   exact(postF_at f h).eats (h2.trans (mustT_eats h3))
theorem postP_at:AtP e (postP e E):=by
 intro r ns o h
 unfold postP at h
 split at h
 ·rename_i h1;cases h;exact primP_at hE hC h1
 ·rename_i h1
  exact(postF_at hE hC _ h).eats (primP_eats hC h1)
theorem unaryP_at:AtP e (unaryP e E):=by
 intro r
 induction r with
 |nil=>intro ns o h;exact postP_at hE hC h
 |cons t r ih=>
  intro ns o h
  simp only[unaryP] at h
  split at h
  ·split at h
   ·rename_i h1;cases h;exact(ih h1).eats (.of_tail (by simp))
   ·cases h
  ·exact postP_at hE hC h
omit hE hC in
theorem chainF_at {k:Int} {ops:List Bs} {O:Pars} (hO:AtP e O) (hOC:EatsP O):∀(f:Nat) {i:Int} {r:List Tok} {ns:List Nd} {o:Int},chainF k ops O f i r ns= .error o→Atv e o r
 |0,i,r,ns,o,h=>by cases h
 |f+1,i,r,ns,o,h=>by
  simp only[chainF] at h
  split at h
  rotate_left
  ·cases h
  rename_i hk
  have h0:Eats r r.tail:= .of_tail hk.2.2
  split at h
  ·rename_i h1;cases h;exact(hO h1).eats h0
  ·rename_i h1
   exact(chainF_at hO hOC f h).eats (h0.trans (hOC h1))
omit hE hC in
theorem chainP_at {k:Int} {ops:List Bs} {O:Pars} (hO:AtP e O) (hOC:EatsP O):AtP e (chainP k ops O):=by
 intro r ns o h
 unfold chainP at h
 split at h
 ·rename_i h1;cases h;exact hO h1
 ·rename_i h1
  exact(chainF_at hO hOC _ h).eats (hOC h1)
theorem sumP_at:AtP e (sumP e E):=chainP_at (chainP_at (unaryP_at hE hC) (unaryP_eats hC)) (termP_eats hC)
theorem cmpP_at:AtP e (cmpP e E):=by
 intro r ns o h
 unfold cmpP at h
 split at h
 ·rename_i h1;cases h;exact sumP_at hE hC h1
 ·rename_i h1
  have h2:=sumP_eats hC h1
  split at h
  ·rename_i hk
   split at h
   ·rename_i h3;cases h;exact(sumP_at hE hC h3).eats (h2.trans (.of_tail hk.2.2))
   ·cases h
  ·cases h
theorem notP_at:AtP e (notP e E):=by
 intro r
 induction r with
 |nil=>intro ns o h;exact cmpP_at hE hC h
 |cons t r ih=>
  intro ns o h
  simp only[notP] at h
  split at h
  ·split at h
   ·rename_i h1;cases h;exact(ih h1).eats (.of_tail (by simp))
   ·cases h
  ·exact cmpP_at hE hC h
theorem orP_at:AtP e (orP e E):=chainP_at (chainP_at (notP_at hE hC) (notP_eats hC)) (andP_eats hC)
end
theorem exprP_at {e:Int}:∀f,AtP e (exprP e f)
 |0,_r,_ns,_o,h=> .err h
 |f+1,_r,_ns,_o,h=>orP_at (exprP_at f) (exprP_eats f) h
end Go.Proofs.YtdccglkagfdooaaGreatDoor
namespace Go.Proofs.YtdccglkagfdooaaGreatDoor
open Go.RowKit
section
variable {l:List Tok} {k:Nat} {e:Int} {ns:List Nd} {fs:List Fc} {f:Nat} {E:Pars}
theorem flatI (ks:List Int):Flat (ks.map intD):=by
 intro x hx d hd
 obtain⟨i,_,rfl⟩:=List.mem_map.1 hx
 simp[intD] at hd
 exact⟨_,hd⟩
theorem flatS (ks:List Bs):Flat (ks.map strD):=by
 intro x hx d hd
 obtain⟨i,_,rfl⟩:=List.mem_map.1 hx
 simp[strD] at hd
 exact⟨_,hd⟩
abbrev iRow (f:Bool) (ks:List Int):Bk:= .row 0 3 1 f (ks.map intD)
abbrev sRow (f:Bool) (ks:List Bs):Bk:= .row 0 9 1 f (ks.map strD)
abbrev iM (l:List Tok) (k:Nat) (e:Int) (ns:List Nd) (fs:List Fc) (ks:List Int):List Bk:=[.box [.ow 1 0],iRow false ks,.box [.bx 3 0],pBox l k e 4 5,nRow ns,fRow fs]
def planI:Plan:= .one 1 (.alt 0 (.alt 2 (.one 3 (.one 4 (.one 5 .done))) .stop) (.alt 2 (.one 0 (.one 3 (.one 4 (.one 5 .done)))) .stop))
theorem x_itemY {i:Int} {k1:Nat} {ns1:List Nd} {ks:List Int} (c:MCalls Tryz.prog 183 [.bx 0 0] (pM l k e ns fs) (int i) (pM l k1 e ns1 fs)) (hks:ks.length≤1000000):
  MCalls Tryz.prog 232 [.bx 0 0,.bx 2 0] (iM l k e ns fs ks) (.tu []) (iM l k1 e ns1 fs (ks++[i])):=by
 have e1:iM l k1 e ns1 fs (ks++[i])=[.box [.ow 1 0],.row 0 3 1 false (ks.map intD++[intD i]),.box [.bx 3 0],pBox l k1 e 4 5,nRow ns1,fRow fs]:=by simp only[iM,iRow,List.map_append,List.map_cons,List.map_nil]
 refine mcx Tryz.func232 (by kernel_rfl) (by kernel_rfl) ?_
 conv=>whnf
 refine⟨some planI,by kernel_rfl,?_⟩
 conv=>whnf
 refine⟨?_,?_,trivial⟩
 ·conv=>whnf
  refine⟨?_,trivial⟩
  conv=>whnf
  refine mcall (T:=TM parM) (φ:=[]) (gf:=false) c ?_
  conv=>whnf
  refine⟨by rw[List.length_map];show(ks.length+1)*8≤_;omega,?_⟩
  conv=>whnf
  exact⟨rfl,by rw[e1];rfl,rfl⟩
 ·conv=>whnf
  refine mcall (T:=TM parM) (φ:=[]) (gf:=false) c ?_
  conv=>whnf
  refine⟨by rw[List.length_map];show(ks.length+1)*8≤_;omega,?_⟩
  conv=>whnf
  exact⟨rfl,by rw[e1];rfl,rfl⟩
theorem x_itemN {o:Int} {ks:List Int} (c:MPans Tryz.prog 183 [.bx 0 0] (pM l k e ns fs) (faultV o)):
  MPans Tryz.prog 232 [.bx 0 0,.bx 2 0] (iM l k e ns fs ks) (faultV o):=by
 refine mpsx Tryz.func232 (by kernel_rfl) (by kernel_rfl) ?_
 conv=>whnf
 refine⟨some planI,by kernel_rfl,?_⟩
 conv=>whnf
 refine⟨?_,?_,trivial⟩
 ·conv=>whnf
  refine⟨.inr ?_,trivial⟩
  exact mpan (T:=TM parM) c rfl
 ·conv=>whnf
  refine .inr ?_
  exact mpan (T:=TM parM) c rfl
theorem isTk_drop (K:Int) (s:Bs) (h:k<l.length):isTk K s (l.drop k)=(decide (l[k].kind=K)&&(l[k].text==s)):=by rw[List.drop_eq_getElem_cons h];rfl
theorem isTk_end (K:Int) (s:Bs) (h:l.length≤k):isTk K s (l.drop k)=false:=by rw[List.drop_eq_nil_of_le h];rfl
theorem nextB_one (K:Int) (s:Bs) (r:List Tok):nextB K [s] r=isTk K s r:=by
 cases r with
 |nil=>rfl
 |cons t r=>by_cases h:t.text=s<;>simp[nextB,isTk,h]
theorem nextB_two {K:Int} {a b:Bs} {r:List Tok}:nextB K [a,b] r=(isTk K a r||isTk K b r):=by
 cases r with
 |nil=>rfl
 |cons t r=>
  show(decide (t.kind=K)&&([a,b].isEmpty||[a,b].contains t.text))=(decide (t.kind=K)&&(t.text==a)||decide (t.kind=K)&&(t.text==b))
  rw[←Bool.and_or_distrib_left,show [a,b].isEmpty=false from rfl,Bool.false_or,List.contains_cons,List.contains_cons,List.contains_nil,Bool.or_false]
abbrev lM0 (l:List Tok) (k:Nat) (e:Int) (ns:List Nd) (fs:List Fc):List Bk:=[pBox l k e 1 2,nRow ns,fRow fs,.box [.cv (.slice none 0 0)],.box [.bx 0 0]]
abbrev lM1 (l:List Tok) (k:Nat) (e:Int) (ns:List Nd) (fs:List Fc) (ks:List Int):List Bk:=[pBox l k e 1 2,nRow ns,fRow fs,.box [.ow 5 0],.box [.bx 0 0],iRow true ks]
abbrev itemF:V:= .fn 232 0 [.bx 3 0,.bx 4 0]
theorem x_list0 {fin:Bs} (hl:l.length≤1000000) (h:isSym fin (l.drop k)=true):
  MCalls Tryz.prog 118 [.bx 0 0,bstr fin,itemF] (lM0 l k e ns fs) (.tu []) (lM0 l (k+1) e ns fs):=by
 have hb:nextB 5 [fin] (l.drop k)=true:=by rw[nextB_one];exact h
 refine mcx Tryz.func118 (by kernel_rfl) (by kernel_rfl) ?_
 conv=>whnf
 refine mcall (T:=TM parM) (φ:=[]) (gf:=false) (x_takeY hl (by simp) hb (nextB_yes hb)) ?_
 conv=>whnf
 refine known true rfl ?_
 conv=>whnf
 exact⟨rfl,rfl,rfl⟩
def outL (l:List Tok) (e:Int) (fs:List Fc):PRes (List Int)→Except Value (V×List Bk)
 | .ok (ks,r1,ns1)=> .ok (.tu [],lM1 l (l.length - r1.length) e ns1 fs ks)
 | .error o=> .error (faultV o)
theorem outL_ok {ks:List Int} {k1:Nat} {ns1:List Nd} (hk:k1≤l.length):outL l e fs (.ok (ks,l.drop k1,ns1))= .ok (.tu [],lM1 l k1 e ns1 fs ks):=by
 simp only[outL,List.length_drop]
 rw[show l.length - (l.length - k1)=k1 by omega]
theorem E_nil (hA:AtP e E) (hE:EatsP E) (ns:List Nd):E [] ns= .error e:=by
 cases h:E [] ns with
 |ok r=>
  obtain⟨i,r1,ns1⟩:=r
  have:=(hE h).lt
  simp at this
 |error o=>
  rcases hA h with h|⟨t,h,_⟩
  ·rw[h]
  ·cases h
theorem x_list1 {fin:Bs} (_hfin:fin≠sCm) (hC:PC 183 E l e fs f) (hE:EatsP E) (hG:GrowP E) (hA:AtP e E) (hl:l.length≤1000000) (hk:k≤l.length) (hf:l.length - k<f) (hn:ns.length+(l.length - k)≤1000000)
  (h:isSym fin (l.drop k)=false):
  MEnds Tryz.prog 118 [.bx 0 0,bstr fin,itemF] (lM0 l k e ns fs) (outL l e fs (listP e fin E (l.drop k) ns)):=by
 have hb:nextB 5 [fin] (l.drop k)=false:=by rw[nextB_one];exact h
 generalize hR:listP e fin E (l.drop k) ns=R
 unfold listP at hR
 rw[if_neg (by rw[h];simp)] at hR
 refine mesx Tryz.func118 (by kernel_rfl) (by kernel_rfl) ?_
 conv=>whnf
 refine .inl ?_
 conv=>whnf
 refine mcall (T:=TM parM) (φ:=[]) (gf:=false) (x_takeN hl (by simp) hb hk) ?_
 conv=>whnf
 refine known false rfl ?_
 conv=>whnf
 refine⟨[(1030000,43,3,1)],Nat×List Nd×List Int,fun _=>[],fun⟨k,ns,ks⟩=>[(27,some (pBox l k e 28 29)),(28,some (nRow ns)),(29,some (fRow fs)),(43,some (iRow true ks))],
  fun⟨k2,ns,ks⟩=>k≤k2∧k2≤l.length∧ns.length+(l.length - k2)≤1000000∧ks.length+(l.length - k2)≤1000000∧∃f',l.length - k2≤f'∧listF e fin E f' ks (l.drop k2) ns=R,fun x=>l.length - x.1,(k,ns,[]),⟨Nat.le_refl _,hk,hn,by simp;omega,_,by rw[List.length_drop];exact Nat.le_refl _,hR⟩,?_,?_⟩
 ·refine⟨rfl,?_,?_⟩<;>repeat' (first|exact trivial|exact rfl|refine and_rfl ?_|refine and_two ?_ ?_)
 clear hR hn hb h
 rintro⟨k2,ns,ks⟩ ⟨b0,b1,b2,b3,f',b4,b5⟩
 cases h1:E (l.drop k2) ns with
 |error o=>
  have hR:R= .error o:=by
   rw[←b5]
   cases f' with
   |zero=>
    have:l.drop k2=[]:=List.drop_eq_nil_of_le (by omega)
    rw[this] at h1⊢
    rw[E_nil hA hE ns] at h1
    cases h1
    rfl
   |succ f'=>unfold listF;rw[h1]
  subst hR
  conv=>whnf
  refine .inr ?_
  exact mpan (T:=TM parM) (x_itemN (hC.err b1 (by omega) b2 h1)) rfl
 |ok r=>
  obtain⟨i,r1,ns3⟩:=r
  obtain⟨f',rfl⟩:∃g,f'=g+1:=by
   refine⟨f' - 1,?_⟩
   have:=(hE h1).lt
   rw[List.length_drop] at this
   omega
  unfold listF at b5
  rw[h1] at b5
  obtain⟨k3,rfl,d1,d2,d3,d4⟩:=hC.ok hE hG b1 (by omega) b2 h1
  conv=>whnf
  refine .inl ?_
  conv=>whnf
  refine mcallR (T:=TM parM) (φ:=[]) (gf:=false) 43 (x_itemY (ks:=ks) d4 (by omega)) (flatI _) ?_
  cases hb:nextB 5 [sCm,fin] (l.drop k3) with
  |false=>
   have hR:R= .error (offT e (l.drop k3)):=by
    rw[nextB_two,Bool.or_eq_false_iff] at hb
    rw[←b5]
    dsimp only
    rw[if_neg (by rw[show isSym fin (l.drop k3)=false from hb.2];simp),if_neg (by rw[show isSym sCm (l.drop k3)=false from hb.1];simp)]
   subst hR
   conv=>whnf
   refine .inr ?_
   exact mpan (T:=TM parM) (x_mustN hl (by simp) hb d2) rfl
  |true=>
   have hk3:=nextB_yes hb
   conv=>whnf
   refine .inl ?_
   conv=>whnf
   refine mcall (T:=TM parM) (φ:=[]) (gf:=false) (x_mustY hl (by simp) hb hk3) ?_
   have hkd:l[k3].kind=5:=by
    rw[nextB_eq _ _ hk3] at hb
    simp at hb
    exact hb.1
   conv=>whnf
   rintro(_|_) h3
   ·have h3:(l[k3].text==fin)=false:=(sEq_mk _ _).symm.trans h3
    have h4:isSym sCm (l.drop k3)=true:=by
     have h5:isTk 5 fin (l.drop k3)=false:=by rw[isTk_drop _ _ hk3,h3,Bool.and_false]
     rw[nextB_two,h5,Bool.or_false] at hb
     exact hb
    dsimp only at b5
    rw[if_neg (by rw[show isSym fin (l.drop k3)=false by rw[isSym,isTk_drop _ _ hk3,h3,Bool.and_false]];simp),if_pos h4,tail_drop] at b5
    conv=>whnf
    refine⟨(k3+1,ns3,ks++[i]),⟨by omega,by omega,by omega,by rw[List.length_append];simp;omega,f',by omega,b5⟩,by dsimp only;omega,?_⟩
    refine⟨rfl,?_,?_⟩<;>repeat' (first|exact trivial|exact rfl|refine and_rfl ?_|refine and_two ?_ ?_)
   ·have h3:(l[k3].text==fin)=true:=(sEq_mk _ _).symm.trans h3
    dsimp only at b5
    rw[if_pos (show isSym fin (l.drop k3)=true by rw[isSym,isTk_drop _ _ hk3,h3,hkd];rfl),tail_drop] at b5
    conv=>whnf
    exact⟨_,by rw[←b5,outL_ok (by omega)],rfl,rfl,rfl⟩
end
end Go.Proofs.YtdccglkagfdooaaGreatDoor
namespace Go.Proofs.YtdccglkagfdooaaGreatDoor
open Go.RowKit
section
variable {l:List Tok} {k:Nat} {e:Int} {ns:List Nd} {fs:List Fc} {f:Nat} {E:Pars}
def outK (l:List Tok) (e:Int) (fs:List Fc):PRes (List Int)→Except Value (V×List Bk)
 | .ok (ks,r1,ns1)=> .ok (intsV ks,pM l (l.length - r1.length) e ns1 fs)
 | .error o=> .error (faultV o)
theorem x_exprs {fin:Bs} (hfin:fin≠sCm) (hC:PC 183 E l e fs f) (hE:EatsP E) (hG:GrowP E) (hA:AtP e E) (hl:l.length≤1000000) (hk:k≤l.length) (hf:l.length - k<f) (hn:ns.length+(l.length - k)≤1000000):
  MEnds Tryz.prog 230 [.bx 0 0,bstr fin] (pM l k e ns fs) (outK l e fs (listP e fin E (l.drop k) ns)):=by
 refine mesx Tryz.func230 (by kernel_rfl) (by kernel_rfl) ?_
 cases h:isSym fin (l.drop k) with
 |true=>
  have hk1:k<l.length:=by
   rcases Nat.lt_or_ge k l.length with h1|h1
   ·exact h1
   ·rw[isSym,isTk_end _ _ h1] at h;cases h
  have hR:listP e fin E (l.drop k) ns= .ok ([],l.drop (k+1),ns):=by unfold listP;rw[if_pos h,tail_drop]
  conv=>whnf
  refine .inl ?_
  conv=>whnf
  refine mcall (T:=TM parM) (φ:=[]) (gf:=false) (x_list0 hl h) ?_
  conv=>whnf
  refine⟨_,by rw[hR];rfl,rfl,?_,rfl⟩
  show _=some (pM l (l.length - (l.drop (k+1)).length) e ns fs)
  rw[List.length_drop,show l.length - (l.length - (k+1))=k+1 by omega]
  rfl
 |false=>
  have c:=x_list1 hfin hC hE hG hA hl hk hf hn h
  generalize listP e fin E (l.drop k) ns=R at c
  cases R with
  |error o=>
   conv=>whnf
   refine .inr ?_
   exact mpan (T:=TM parM) c rfl
  |ok r=>
   obtain⟨ks,r1,ns1⟩:=r
   conv=>whnf
   refine .inl ?_
   conv=>whnf
   refine mcall (T:=TM parM) (φ:=[27]) (gf:=false) c ?_
   conv=>whnf
   exact⟨_,rfl,rfl,rfl,rfl⟩
end
end Go.Proofs.YtdccglkagfdooaaGreatDoor
