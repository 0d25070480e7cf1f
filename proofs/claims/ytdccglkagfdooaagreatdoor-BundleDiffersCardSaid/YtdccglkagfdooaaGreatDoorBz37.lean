/- Texts joined by pack.py: XSyS -/
import Derived.Test.YtdccglkagfdooaaGreatDoorBz36
set_option maxHeartbeats 16000000
set_option maxRecDepth 100000
namespace Go.Proofs.YtdccglkagfdooaaGreatDoor
open Go.RowKit
section
variable {l:List Tok} {e:Int} {f:Nat}
def outG (l:List Tok) (e:Int):Except Int Pg→Except Value (V×List Bk)
 | .ok p=> .ok (.tu [],pM l l.length e p.nodes p.funcs)
 | .error o=> .error (faultV o)
def planF:Plan:= .one 1 (.one 2 (.one 3 (.one 4 (.one 5 (.one 6 (.alt 0 (.one 7 (.one 8 (.one 9 (.one 10 (.one 11 (.one 12 .done)))))) (.alt 7 (.alt 0 (.one 8 (.one 9 (.one 10 (.one 11 (.one 12 .done))))) (.alt 8 (.one 0 (.one 9 (.one 10 (.one 11 (.one 12 .done))))) .stop)) .stop)))))))
theorem parP_room {k:Nat} {ps:List Bs} {r1:List Tok} (h:parP e (l.drop k)= .ok (ps,r1)):r1.length<l.length - k∧r1<:+l.drop k:=by
 have h1:=parP_eats h
 have:=h1.lt
 rw[List.length_drop] at this
 exact⟨this,h1.suf⟩
theorem x_program (hl:l.length≤1000000) (h0:l.length≤100000):MEnds Tryz.prog 87 [.bx 0 0] [.box [.sl false 4 (l.map tokD),int 0,int e,.cv (.slice none 0 0),.cv (.slice none 0 0)]] (outG l e (progF e (l.length+1) l.length [] l [])):=by
 have hll:(l.map tokD).length=l.length:=List.length_map _
 have hB:∀fs,PC 120 (blockP e (l.length+1)) l e fs (l.length+1):=fun fs=>x_block hl _
 have hBE:EatsP (blockP e (l.length+1)):=blockP_eats _
 have hBG:GrowP (blockP e (l.length+1)):=blockP_grow _
 generalize hR:progF e (l.length+1) l.length [] l []=R
 refine mesx Tryz.func87 (by kernel_rfl) (by kernel_rfl) ?_
 conv=>whnf
 refine⟨[(1041003,58,153,5),(1041004,59,87,3)],Nat×List Nd×List Fc,fun _=>[],fun⟨k,ns,fs⟩=>[(41,some (pBox l k e 58 59)),(58,some (nRow ns)),(59,some (fRow fs)),(60,none)],
  fun⟨k,ns,fs⟩=>k≤l.length∧ns.length+(l.length - k)≤100000∧fs.length+(l.length - k)≤100000∧∃f',l.length - k≤f'∧progF e (l.length+1) f' fs (l.drop k) ns=R,fun x=>l.length - x.1,(0,[],[]),⟨Nat.zero_le _,by simp;omega,by simp;omega,_,Nat.le_of_eq (Nat.sub_zero _),hR⟩,?_,?_⟩
 ·refine⟨rfl,?_,?_⟩<;>repeat' (first|exact trivial|exact rfl|refine and_rfl ?_|refine and_two ?_ ?_)
 clear hR
 rintro⟨k,ns,fs⟩ ⟨b1,b2,b3,f',b4,b5⟩
 conv=>whnf
 refine⟨none,by kernel_rfl,?_⟩
 rcases Nat.lt_or_ge k l.length with hlt|hge
 rotate_left
 ·have hd:l.drop k=[]:=List.drop_eq_nil_of_le hge
  have hk:k=l.length:=by omega
  have hR:R= .ok ⟨ns,fs⟩:=by
   rw[←b5,hd]
   cases f' with
   |zero=>rfl
   |succ f'=>unfold progF;rw[if_pos rfl]
  conv=>whnf
  refine known false (by rw[hll];simp;omega) ?_
  conv=>whnf
  subst hk
  exact⟨_,by rw[hR];rfl,rfl,rfl,rfl⟩
 conv=>whnf
 refine known true (by rw[hll];simp;omega) ?_
 obtain⟨f',rfl⟩:∃g,f'=g+1:=⟨f' - 1,by omega⟩
 unfold progF at b5
 rw[if_neg (List.ne_nil_of_length_pos (by rw[List.length_drop];omega)),funcP,mustT_drop,←nextB_one] at b5
 cases h1:nextB 2 [wFunc] (l.drop k) with
 |false=>
  rw[h1] at b5
  simp only[Bool.false_eq_true,if_false] at b5
  subst b5
  conv=>whnf
  refine .inr ?_
  exact mpan (T:=TM parM) (x_mustN (fs:=fs) (ts:=[wFunc]) hl (by simp) h1 b1) rfl
 |true=>
 rw[h1] at b5
 simp only[if_true] at b5
 conv=>whnf
 refine .inl ?_
 conv=>whnf
 refine mcall (T:=TM parM) (φ:=[]) (gf:=false) (x_mustY (fs:=fs) (ts:=[wFunc]) hl (by simp) h1 hlt) ?_
 rw[mustK_next] at b5
 cases h2:nextB 1 [] (l.drop (k+1)) with
 |false=>
  rw[h2] at b5
  simp only[Bool.false_eq_true,if_false] at b5
  subst b5
  conv=>whnf
  refine .inr ?_
  exact mpan (T:=TM parM) (x_mustN (k:=k+1) (fs:=fs) (ts:=[]) hl (by simp) h2 hlt) rfl
 |true=>
 have hlt2:=nextB_yes h2
 rw[h2] at b5
 simp only[if_true] at b5
 rw[pText_at hlt2,mustT_drop,←nextB_one] at b5
 conv=>whnf
 refine .inl ?_
 conv=>whnf
 refine mcall (T:=TM parM) (φ:=[]) (gf:=false) (x_mustY (k:=k+1) (fs:=fs) (ts:=[]) hl (by simp) h2 hlt2) ?_
 cases h3:nextB 5 [sLP] (l.drop (k+1+1)) with
 |false=>
  rw[h3] at b5
  simp only[Bool.false_eq_true,if_false] at b5
  subst b5
  conv=>whnf
  refine .inr ?_
  exact mpan (T:=TM parM) (x_mustN (k:=k+1+1) (fs:=fs) (ts:=[sLP]) hl (by simp) h3 hlt2) rfl
 |true=>
 have hlt3:=nextB_yes h3
 rw[h3] at b5
 simp only[if_true] at b5
 conv=>whnf
 refine .inl ?_
 conv=>whnf
 refine mcall (T:=TM parM) (φ:=[]) (gf:=false) (x_mustY (k:=k+1+1) (fs:=fs) (ts:=[sLP]) hl (by simp) h3 hlt3) ?_
 cases h4:isSym sRP (l.drop (k+1+1+1)) with
 |true=>
  have hlt4:k+1+1+1<l.length:=nextB_yes (K:=5) (ts:=[sRP]) (by rw[nextB_one];exact h4)
  have hp:parP e (l.drop (k+1+1+1))= .ok ([],l.drop (k+1+1+1+1)):=by unfold parP;rw[if_pos h4,tail_drop]
  rw[hp] at b5
  dsimp only at b5
  conv=>whnf
  refine .inl ?_
  conv=>whnf
  refine mcallN (T:=TM parM) (φ:=[]) (gf:=false) 2 1 1 (x_plist0 (k:=k+1+1+1) (ns:=ns) (fs:=fs) (nm:=l[k+1].text) hl h4) ?_
  cases h5:blockP e (l.length+1) (l.drop (k+1+1+1+1)) ns with
  |error o=>
   rw[h5] at b5
   subst b5
   conv=>whnf
   refine .inr ?_
   exact mpan (T:=TM parM) ((hB fs).err (by omega) (by omega) (by omega) h5) rfl
  |ok r=>
  obtain⟨b,r5,ns5⟩:=r
  rw[h5] at b5
  obtain⟨k5,rfl,d1,d2,d3,d4⟩:=(hB fs).ok hBE hBG (by omega) (by omega) (by omega) h5
  conv=>whnf
  refine .inl ?_
  conv=>whnf
  refine mcall (T:=TM parM) (φ:=[]) (gf:=false) d4 ?_
  conv=>whnf
  refine⟨some planF,by kernel_rfl,?_⟩
  conv=>whnf
  refine⟨?_,?_,trivial⟩
  rotate_left
  ·conv=>whnf
   refine⟨?_,?_,trivial⟩
   all_goals
    conv=>whnf
    refine⟨by rw[List.length_map];show(fs.length+1)*48≤_;omega,?_⟩
    conv=>whnf
    refine⟨(k5,ns5,fs++[⟨l[k+1].text,[],b⟩]),⟨d2,by omega,by rw[List.length_append];simp;omega,f',by omega,b5⟩,by dsimp only;omega,?_⟩
    refine⟨rfl,?_,?_⟩<;>repeat' (first|exact trivial|exact rfl|refine and_rfl ?_|refine and_two ?_ ?_|(rw[List.map_append];exact rfl))
  ·conv=>whnf
   refine⟨by rw[List.length_map];show(fs.length+1)*48≤_;omega,?_⟩
   conv=>whnf
   refine⟨(k5,ns5,fs++[⟨l[k+1].text,[],b⟩]),⟨d2,by omega,by rw[List.length_append];simp;omega,f',by omega,b5⟩,by dsimp only;omega,?_⟩
   refine⟨rfl,?_,?_⟩<;>repeat' (first|exact trivial|exact rfl|refine and_rfl ?_|refine and_two ?_ ?_|(rw[List.map_append];exact rfl))
 |false=>
  have c:=x_plist1 (k:=k+1+1+1) (ns:=ns) (fs:=fs) (nm:=l[k+1].text) (e:=e) hl (by omega) h4
  have hp:parP e (l.drop (k+1+1+1))=parF e (l.length - (k+1+1+1)) [] (l.drop (k+1+1+1)):=by unfold parP;rw[if_neg (by rw[h4];simp),List.length_drop]
  cases hq:parP e (l.drop (k+1+1+1)) with
  |error o=>
   rw[hq] at b5
   rw[←hp,hq] at c
   subst b5
   conv=>whnf
   refine .inr ?_
   exact mpan (T:=TM parM) c rfl
  |ok x=>
  obtain⟨ps,r4⟩:=x
  obtain⟨g1,g2⟩:=parP_room hq
  obtain⟨k4,rfl,g3,g4⟩:∃k4,r4=l.drop k4∧k+1+1+1<k4∧k4≤l.length:=⟨l.length - r4.length,suf_drop g2,by omega,by omega⟩
  rw[hq] at b5
  rw[←hp,hq,outQ_ok g4] at c
  dsimp only at b5
  conv=>whnf
  refine .inl ?_
  conv=>whnf
  refine mcallZ (T:=TM parM) (φ:=[60]) (gf:=false) 60 2 1 c ?_
  cases h5:blockP e (l.length+1) (l.drop k4) ns with
  |error o=>
   rw[h5] at b5
   subst b5
   conv=>whnf
   refine .inr ?_
   exact mpan (T:=TM parM) ((hB fs).err (by omega) (by omega) (by omega) h5) rfl
  |ok r=>
  obtain⟨b,r5,ns5⟩:=r
  rw[h5] at b5
  obtain⟨k5,rfl,d1,d2,d3,d4⟩:=(hB fs).ok hBE hBG (by omega) (by omega) (by omega) h5
  conv=>whnf
  refine .inl ?_
  conv=>whnf
  refine mcall (T:=TM parM) (φ:=[]) (gf:=false) d4 ?_
  conv=>whnf
  refine⟨some planF,by kernel_rfl,?_⟩
  conv=>whnf
  refine⟨?_,?_,trivial⟩
  rotate_left
  ·conv=>whnf
   refine⟨?_,?_,trivial⟩
   all_goals
    conv=>whnf
    refine⟨by rw[List.length_map];show(fs.length+1)*48≤_;omega,?_⟩
    conv=>whnf
    refine⟨(k5,ns5,fs++[⟨l[k+1].text,ps,b⟩]),⟨d2,by omega,by rw[List.length_append];simp;omega,f',by omega,b5⟩,by dsimp only;omega,?_⟩
    refine⟨rfl,?_,?_⟩<;>repeat' (first|exact trivial|exact rfl|refine and_rfl ?_|refine and_two ?_ ?_|(rw[List.map_append];exact rfl))
  ·conv=>whnf
   refine⟨by rw[List.length_map];show(fs.length+1)*48≤_;omega,?_⟩
   conv=>whnf
   refine⟨(k5,ns5,fs++[⟨l[k+1].text,ps,b⟩]),⟨d2,by omega,by rw[List.length_append];simp;omega,f',by omega,b5⟩,by dsimp only;omega,?_⟩
   refine⟨rfl,?_,?_⟩<;>repeat' (first|exact trivial|exact rfl|refine and_rfl ?_|refine and_two ?_ ?_|(rw[List.map_append];exact rfl))
end
end Go.Proofs.YtdccglkagfdooaaGreatDoor
