/- Texts joined by pack.py: XSyZF -/
import Derived.Test.YtglndfgmlminpaaGreatDoorSx46
set_option maxHeartbeats 16000000
set_option maxRecDepth 100000
namespace Go.Proofs.YtglndfgmlminpaaGreatDoor
open Go.RowKit
section
variable {l:List Tok} {e:Int} {f:Nat} {E:RdF Int} {P:Pars}
theorem rName_y {s:Rs} (h:pKind (l.drop s.k)=1):rName l e s=(pText (l.drop s.k),rAdv s):=by unfold rName;rw[if_pos h]
theorem rdVal_at {k:Nat} (h:k<l.length):rdVal (l.drop k)=l[k].val:=by rw[List.drop_eq_getElem_cons h];rfl
theorem listG_num {fin:Bs} (ho:∀k,0≤offT e (l.drop k)) (hG:GoodR l 0 f E P) (hA:AtP e P) (hC:EatsP P) {s:Rs} (h1:s.fl= -1) (h2:s.k≤l.length) (h3:l.length<s.k+f):((listG l e fin E s).2.fl= -1∧s.k<(listG l e fin E s).2.k∧(listG l e fin E s).2.k≤l.length∧(listG l e fin E s).2.ns.length+s.k≤s.ns.length+(listG l e fin E s).2.k)∨(0≤(listG l e fin E s).2.fl∧s.k≤(listG l e fin E s).2.k∧(listG l e fin E s).2.k≤l.length∧(listG l e fin E s).2.ns.length+2*s.k≤s.ns.length+2*(listG l e fin E s).2.k+0):=(listG_good ho (fin:=fin) hG hA hC s h1 h2 h3).num
theorem rdq_called (ho:∀k,0≤offT e (l.drop k)) (hE:RC 147 E l e f) (hG:GoodR l 0 f E P) (hA:AtP e P) (hC:EatsP P) (hl:l.length≤1000000) (s:Rs) (hk1:pKind (l.drop s.k)=1) (h1:s.fl= -1) (h2:s.k≤l.length) (h3:l.length<s.k+(f+1)) (h4:s.ns.length+2*(l.length - s.k)≤2000000):
  MCalls Tryz.prog 270 [.bx 0 0] (rM l e s) (int (callR l e E s).1) (rM l e (callR l e E s).2):=by
 have hlt:=kind_lt hk1 (by decide)
 generalize hR:callR l e E s=R
 unfold callR at hR
 rw[rName_y hk1] at hR
 dsimp only[rAdv] at hR
 have c:=rdq_name (e:=e) hl h2
 rw[rName_y hk1] at c
 refine rcx Tryz.func270 (by kernel_rfl) (by kernel_rfl) ?_
 conv=>whnf
 refine mcall (T:=TM radM) (φ:=[]) (gf:=false) c ?_
 conv=>whnf
 refine mcall (T:=TM radM) (φ:=[]) (gf:=false) (rdq_sym (s:=rAdv s) sLP hl) ?_
 cases h:isSym sLP (l.drop (s.k+1)) with
 |false=>
  rw[h,if_neg (by simp)] at hR
  subst hR
  conv=>whnf
  refine known true rfl ?_
  conv=>whnf
  refine mcall (T:=TM radM) (φ:=[]) (gf:=false) (rdq_add (e:=e) (s:=rAdv s) (ndM 5 (pText (l.drop s.k)) 0 []) (by(try dsimp only);omega)) ?_
  conv=>whnf
  exact⟨rfl,rfl,rfl⟩
 |true=>
  have hlt2:=tk_lt h
  have hw:IntKind.i64.wrap (((s.k+1:Nat):Int)+1)=((s.k+1+1:Nat):Int):=wrap_succ (by omega)
  have hn:=listG_num (fin:=sRP) ho hG hA hC (s:=rAdv (rAdv s)) h1 hlt2 (by(try dsimp only);omega)
  have cL:=rdq_list (fin:=sRP) ho hE hG hl (rAdv (rAdv s)) h1 hlt2 (by(try dsimp only);omega) (by(try dsimp only);omega)
  dsimp only[rAdv] at hn cL
  rw[h,if_pos rfl] at hR
  generalize listG l e sRP E ⟨s.k+1+1,s.ns,s.fl⟩=x at hn cL hR
  obtain⟨js,s1⟩:=x
  dsimp only at hn cL hR
  subst hR
  conv=>whnf
  refine known false rfl ?_
  conv=>whnf
  rw[hw]
  conv=>whnf
  refine mcall (T:=TM radM) (φ:=[]) (gf:=false) cL ?_
  conv=>whnf
  refine mcall (T:=TM radM) (φ:=[]) (gf:=false) (rdq_add (e:=e) (s:=s1) (ndM 11 (pText (l.drop s.k)) 0 js) (by omega)) ?_
  conv=>whnf
  exact⟨rfl,rfl,rfl⟩
theorem rdq_hosted (ho:∀k,0≤offT e (l.drop k)) (hE:RC 147 E l e f) (hG:GoodR l 0 f E P) (hA:AtP e P) (hC:EatsP P) (hl:l.length≤1000000) (s:Rs) (hlt:s.k<l.length) (h1:s.fl= -1) (h3:l.length<s.k+(f+1)) (h4:s.ns.length+2*(l.length - s.k)≤2000000):
  MCalls Tryz.prog 271 [.bx 0 0] (rM l e s) (int (hostR l e E s).1) (rM l e (hostR l e E s).2):=by
 generalize hR:hostR l e E s=R
 unfold hostR at hR
 dsimp only at hR
 have hw:IntKind.i64.wrap (((s.k:Nat):Int)+1)=((s.k+1:Nat):Int):=wrap_succ (by omega)
 have ht:=rTake_num ho (s:=rAdv s) sLP hlt (.inl h1)
 have cT:=rdq_take (e:=e) (s:=rAdv s) sLP hl hlt
 dsimp only[rAdv] at ht cT
 refine rcx Tryz.func271 (by kernel_rfl) (by kernel_rfl) ?_
 conv=>whnf
 refine mcall (T:=TM radM) (φ:=[]) (gf:=false) (rdq_text hl) ?_
 conv=>whnf
 rw[hw]
 conv=>whnf
 refine mcall (T:=TM radM) (φ:=[]) (gf:=false) cT ?_
 clear cT
 generalize rTake l e sLP ⟨s.k+1,s.ns,s.fl⟩=s1 at ht hR
 conv=>whnf
 refine mcall (T:=TM radM) (φ:=[]) (gf:=false) rdq_good ?_
 conv=>whnf
 rintro(_|_) hf
 rotate_left
 ·have hf:¬s1.fl<0:=by simpa using hf
  rw[if_neg hf] at hR
  subst hR
  conv=>whnf
  exact⟨rfl,rfl,rfl⟩
 have hf:s1.fl<0:=by simpa using hf
 rw[if_pos hf] at hR
 have hn:=listG_num (fin:=sRP) ho hG hA hC (s:=s1) (by omega) (by omega) (by omega)
 have cL:=rdq_list (fin:=sRP) ho hE hG hl s1 (by omega) (by omega) (by omega) (by omega)
 generalize listG l e sRP E s1=x at hn cL hR
 obtain⟨js,s2⟩:=x
 dsimp only at hn cL hR
 subst hR
 conv=>whnf
 refine mcall (T:=TM radM) (φ:=[]) (gf:=false) cL ?_
 conv=>whnf
 refine mcall (T:=TM radM) (φ:=[]) (gf:=false) (rdq_add (e:=e) (s:=s2) (ndM 12 (pText (l.drop s.k)) 0 js) (by omega)) ?_
 conv=>whnf
 exact⟨rfl,rfl,rfl⟩
theorem rdq_prim (ho:∀k,0≤offT e (l.drop k)) (hE:RC 147 E l e f) (hG:GoodR l 0 f E P) (hA:AtP e P) (hC:EatsP P) (hl:l.length≤1000000):RC 266 (primR l e E) l e (f+1):=by
 intro s h1 h2 h3 h4
 generalize hR:primR l e E s=R
 unfold primR at hR
 dsimp only at hR
 have hw:s.k<l.length→IntKind.i64.wrap (((s.k:Nat):Int)+1)=((s.k+1:Nat):Int):=fun _=>wrap_succ (by omega)
 have hw2:s.k<l.length→IntKind.i64.wrap (((s.k+1:Nat):Int) - 1)=(s.k:Int):=fun _=>by rw[wrap_in (by omega)];omega
 refine rcx Tryz.func266 (by kernel_rfl) (by kernel_rfl) ?_
 conv=>whnf
 refine mcall (T:=TM radM) (φ:=[]) (gf:=false) (rdq_kind hl) ?_
 conv=>whnf
 rintro(_|_) c3
 rotate_left
 ·have c3:pKind (l.drop s.k)=3:=by simpa using c3
  rw[if_pos c3] at hR
  have hlt:=kind_lt c3 (by decide)
  have hw:=hw hlt
  have hw2:=hw2 hlt
  subst hR
  conv=>whnf
  rw[hw]
  conv=>whnf
  refine⟨none,by kernel_rfl,?_⟩
  conv=>whnf
  rw[hw2]
  conv=>whnf
  refine⟨by omega,_,get_map tokD hlt,?_⟩
  have c:=rdq_add (l:=l) (e:=e) (s:=rAdv s) (ndM 3 [] (rdVal (l.drop s.k)) []) (by(try dsimp only);omega)
  rw[rdVal_at hlt] at c⊢
  conv=>whnf
  refine mcall (T:=TM radM) (φ:=[]) (gf:=false) c ?_
  conv=>whnf
  exact⟨rfl,rfl,rfl⟩
 have c3:pKind (l.drop s.k)≠3:=by simpa using c3
 rw[if_neg c3] at hR
 conv=>whnf
 rintro(_|_) c4
 rotate_left
 ·have c4:pKind (l.drop s.k)=4:=by simpa using c4
  rw[if_pos c4] at hR
  have hlt:=kind_lt c4 (by decide)
  have hw:=hw hlt
  have hw2:=hw2 hlt
  subst hR
  conv=>whnf
  rw[hw]
  conv=>whnf
  refine⟨none,by kernel_rfl,?_⟩
  conv=>whnf
  rw[hw2]
  conv=>whnf
  refine⟨by omega,_,get_map tokD hlt,?_⟩
  have c:=rdq_add (l:=l) (e:=e) (s:=rAdv s) (ndM 4 (pText (l.drop s.k)) 0 []) (by(try dsimp only);omega)
  rw[pText_at2 hlt] at c⊢
  conv=>whnf
  refine mcall (T:=TM radM) (φ:=[]) (gf:=false) c ?_
  conv=>whnf
  exact⟨rfl,rfl,rfl⟩
 have c4:pKind (l.drop s.k)≠4:=by simpa using c4
 rw[if_neg c4] at hR
 conv=>whnf
 refine mcall (T:=TM radM) (φ:=[]) (gf:=false) (rdq_word wNull hl) ?_
 rcases cN:isWrd wNull (l.drop s.k) with _|_
 rotate_left
 ·rw[if_pos cN] at hR
  have hlt:=tk_lt cN
  have hw:=hw hlt
  have hw2:=hw2 hlt
  subst hR
  repeat((conv=>whnf);first|refine known true rfl ?_|refine known false rfl ?_)
  conv=>whnf
  rw[hw]
  conv=>whnf
  refine mcall (T:=TM radM) (φ:=[]) (gf:=false) (rdq_add (e:=e) (s:=rAdv s) (ndM 1 [] 0 []) (by(try dsimp only);omega)) ?_
  conv=>whnf
  exact⟨rfl,rfl,rfl⟩
 rw[if_neg (by rw[cN];simp)] at hR
 repeat((conv=>whnf);first|refine known true rfl ?_|refine known false rfl ?_)
 conv=>whnf
 refine mcall (T:=TM radM) (φ:=[]) (gf:=false) (rdq_word wTrue hl) ?_
 rcases cT:isWrd wTrue (l.drop s.k) with _|_
 rotate_left
 ·rw[if_pos cT] at hR
  have hlt:=tk_lt cT
  have hw:=hw hlt
  have hw2:=hw2 hlt
  subst hR
  repeat((conv=>whnf);first|refine known true rfl ?_|refine known false rfl ?_)
  conv=>whnf
  refine mcall (T:=TM radM) (φ:=[]) (gf:=false) (rdq_word wTrue hl) ?_
  rw[cT]
  repeat((conv=>whnf);first|refine known true rfl ?_|refine known false rfl ?_)
  conv=>whnf
  rw[hw]
  conv=>whnf
  refine mcall (T:=TM radM) (φ:=[]) (gf:=false) (rdq_add (e:=e) (s:=rAdv s) (ndM 2 [] 1 []) (by(try dsimp only);omega)) ?_
  conv=>whnf
  exact⟨rfl,rfl,rfl⟩
 rw[if_neg (by rw[cT];simp)] at hR
 repeat((conv=>whnf);first|refine known true rfl ?_|refine known false rfl ?_)
 conv=>whnf
 refine mcall (T:=TM radM) (φ:=[]) (gf:=false) (rdq_word wFalse hl) ?_
 rcases cF:isWrd wFalse (l.drop s.k) with _|_
 rotate_left
 ·rw[if_pos cF] at hR
  have hlt:=tk_lt cF
  have hw:=hw hlt
  have hw2:=hw2 hlt
  subst hR
  repeat((conv=>whnf);first|refine known true rfl ?_|refine known false rfl ?_)
  conv=>whnf
  refine mcall (T:=TM radM) (φ:=[]) (gf:=false) (rdq_word wTrue hl) ?_
  rw[cT]
  repeat((conv=>whnf);first|refine known true rfl ?_|refine known false rfl ?_)
  conv=>whnf
  rw[hw]
  conv=>whnf
  refine mcall (T:=TM radM) (φ:=[]) (gf:=false) (rdq_add (e:=e) (s:=rAdv s) (ndM 2 [] 0 []) (by(try dsimp only);omega)) ?_
  conv=>whnf
  exact⟨rfl,rfl,rfl⟩
 rw[if_neg (by rw[cF];simp)] at hR
 repeat((conv=>whnf);first|refine known true rfl ?_|refine known false rfl ?_)
 conv=>whnf
 rintro(_|_) c1
 rotate_left
 ·have c1:pKind (l.drop s.k)=1:=by simpa using c1
  rw[if_pos c1] at hR
  have hlt:=kind_lt c1 (by decide)
  have hw:=hw hlt
  have hw2:=hw2 hlt
  conv=>whnf
  refine mcall (T:=TM radM) (φ:=[]) (gf:=false) (rdq_called ho hE hG hA hC hl s c1 h1 h2 h3 h4) ?_
  subst hR
  conv=>whnf
  exact⟨rfl,rfl,rfl⟩
 have c1:pKind (l.drop s.k)≠1:=by simpa using c1
 rw[if_neg c1] at hR
 conv=>whnf
 rintro(_|_) c6
 rotate_left
 ·have c6:pKind (l.drop s.k)=6:=by simpa using c6
  rw[if_pos c6] at hR
  have hlt:=kind_lt c6 (by decide)
  have hw:=hw hlt
  have hw2:=hw2 hlt
  conv=>whnf
  refine mcall (T:=TM radM) (φ:=[]) (gf:=false) (rdq_hosted ho hE hG hA hC hl s hlt h1 h3 h4) ?_
  subst hR
  conv=>whnf
  exact⟨rfl,rfl,rfl⟩
 have c6:pKind (l.drop s.k)≠6:=by simpa using c6
 rw[if_neg c6] at hR
 conv=>whnf
 refine mcall (T:=TM radM) (φ:=[]) (gf:=false) (rdq_sym sLB hl) ?_
 rcases cL:isSym sLB (l.drop s.k) with _|_
 rotate_left
 ·rw[if_pos cL] at hR
  have hlt:=tk_lt cL
  have hw:=hw hlt
  have hw2:=hw2 hlt
  repeat((conv=>whnf);first|refine known true rfl ?_|refine known false rfl ?_)
  have hn:=listG_num (fin:=sRB) ho hG hA hC (s:=rAdv s) h1 hlt (by(try dsimp only);omega)
  have cL2:=rdq_list (fin:=sRB) ho hE hG hl (rAdv s) h1 hlt (by(try dsimp only);omega) (by(try dsimp only);omega)
  dsimp only[rAdv] at hn cL2 hR
  generalize listG l e sRB E ⟨s.k+1,s.ns,s.fl⟩=x at hn cL2 hR
  obtain⟨js,s1⟩:=x
  dsimp only at hn cL2 hR
  subst hR
  conv=>whnf
  rw[hw]
  conv=>whnf
  refine mcall (T:=TM radM) (φ:=[]) (gf:=false) cL2 ?_
  conv=>whnf
  refine mcall (T:=TM radM) (φ:=[]) (gf:=false) (rdq_add (e:=e) (s:=s1) (ndM 6 [] 0 js) (by omega)) ?_
  conv=>whnf
  exact⟨rfl,rfl,rfl⟩
 rw[if_neg (by rw[cL];simp)] at hR
 repeat((conv=>whnf);first|refine known true rfl ?_|refine known false rfl ?_)
 conv=>whnf
 refine mcall (T:=TM radM) (φ:=[]) (gf:=false) (rdq_sym sLC hl) ?_
 rcases cC:isSym sLC (l.drop s.k) with _|_
 rotate_left
 ·rw[if_pos cC] at hR
  have hlt:=tk_lt cC
  have hw:=hw hlt
  have hw2:=hw2 hlt
  repeat((conv=>whnf);first|refine known true rfl ?_|refine known false rfl ?_)
  have cK:=rdq_table ho hE hG hl (rAdv s) h1 hlt (by(try dsimp only);omega) (by(try dsimp only);omega)
  dsimp only[rAdv] at cK hR
  subst hR
  conv=>whnf
  rw[hw]
  conv=>whnf
  refine mcall (T:=TM radM) (φ:=[]) (gf:=false) cK ?_
  conv=>whnf
  exact⟨rfl,rfl,rfl⟩
 rw[if_neg (by rw[cC];simp)] at hR
 repeat((conv=>whnf);first|refine known true rfl ?_|refine known false rfl ?_)
 conv=>whnf
 refine mcall (T:=TM radM) (φ:=[]) (gf:=false) (rdq_sym sLP hl) ?_
 rcases cP:isSym sLP (l.drop s.k) with _|_
 rotate_left
 ·rw[if_pos cP] at hR
  have hlt:=tk_lt cP
  have hw:=hw hlt
  have hw2:=hw2 hlt
  repeat((conv=>whnf);first|refine known true rfl ?_|refine known false rfl ?_)
  have hn:=hG.num (s:=rAdv s) h1 hlt (by(try dsimp only);omega)
  have cE:=hE (rAdv s) h1 hlt (by(try dsimp only);omega) (by(try dsimp only);omega)
  dsimp only[rAdv] at hn cE hR
  generalize E ⟨s.k+1,s.ns,s.fl⟩=x at hn cE hR
  obtain⟨j,s1⟩:=x
  dsimp only at hn cE hR
  subst hR
  conv=>whnf
  rw[hw]
  conv=>whnf
  refine mcall (T:=TM radM) (φ:=[]) (gf:=false) cE ?_
  conv=>whnf
  refine mcall (T:=TM radM) (φ:=[]) (gf:=false) (rdq_take (e:=e) (s:=s1) sRP hl (by omega)) ?_
  conv=>whnf
  exact⟨rfl,rfl,rfl⟩
 rw[if_neg (by rw[cP];simp)] at hR
 repeat((conv=>whnf);first|refine known true rfl ?_|refine known false rfl ?_)
 conv=>whnf
 refine mcall (T:=TM radM) (φ:=[]) (gf:=false) (rdq_bad hl) ?_
 subst hR
 conv=>whnf
 exact⟨rfl,rfl,rfl⟩
end
end Go.Proofs.YtglndfgmlminpaaGreatDoor
