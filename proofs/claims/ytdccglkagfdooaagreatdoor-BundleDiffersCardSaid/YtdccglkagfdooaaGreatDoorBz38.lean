/- Texts joined by pack.py: XLxP0 XLxP1 XLxP2 XSyPD XSyPH XSxDf -/
import Derived.Test.YtdccglkagfdooaaGreatDoorBz26
import Derived.Test.YtdccglkagfdooaaGreatDoorBz28
import Derived.Test.YtdccglkagfdooaaGreatDoorBz24
import Derived.Test.YtdccglkagfdooaaGreatDoorBz29
import Derived.Test.YtdccglkagfdooaaGreatDoorBz17
import Derived.Recover
namespace Go.Proofs.YtdccglkagfdooaaGreatDoor
open Go.RowKit
theorem dval_snoc:∀(l:Bs) (c:UInt8) (n:Nat),dval (l++[c]) n=10*dval l n+(c.toNat - 48)
 |[],c,n=>rfl
 |d::l,c,n=>by simp only[List.cons_append,dval];exact dval_snoc l c _
theorem ofNat_dig {c:UInt8} (h:isDg c=true):UInt8.ofNat (48+(c.toNat - 48))=c:=by
 have h1:=dg_int h
 rw[show 48+(c.toNat - 48)=c.toNat by omega]
 exact UInt8.ofNat_toNat
theorem decDigits_dval:∀(k:Nat) (d:Bs),d.length=k+1→(∀c∈d,isDg c=true)→(1<d.length→d.head?≠some 48)→Lib.decDigits (dval d 0)=d∧(1<d.length→1≤dval d 0)∧(d.head?≠some 48→1≤dval d 0)
 |0,d,hk,hd,_=>by
  obtain⟨c,rfl⟩:∃c,d=[c]:=List.length_eq_one_iff.1 hk
  have hc:=hd c (by simp)
  have h1:=dg_int hc
  have hv:dval [c] 0=c.toNat - 48:=by simp[dval]
  refine⟨?_,by simp,fun h=>?_⟩
  ·rw[hv,decDigits_lt (by omega),ofNat_dig hc]
  ·rw[hv]
   have:c≠48:=by simpa using h
   have:c.toNat≠48:=fun e=>this (UInt8.toNat_inj.1 (by rw[e];rfl))
   omega
 |k+1,d,hk,hd,h0=>by
  obtain⟨e,c,rfl⟩:∃e c,d=e++[c]:=⟨d.dropLast,d.getLast (by intro h;rw[h] at hk;simp at hk),(List.dropLast_concat_getLast _).symm⟩
  have hke:e.length=k+1:=by simpa using hk
  have hc:=hd c (by simp)
  have h1:=dg_int hc
  have hh:(e++[c]).head?=e.head?:=by cases e with
   |nil=>simp at hke
   |cons a b=>rfl
  have hne:e.head?≠some 48:=by rw[←hh];exact h0 (by simp;omega)
  obtain⟨i1,i2,i3⟩:=decDigits_dval k e hke (fun x hx=>hd x (by simp[hx])) (fun _=>hne)
  have:=i3 hne
  refine⟨?_,fun _=>?_,fun _=>?_⟩
  ·rw[dval_snoc,decDigits_ge (by omega),show(10*dval e 0+(c.toNat - 48)) / 10=dval e 0 by omega,i1,show(10*dval e 0+(c.toNat - 48)) % 10=c.toNat - 48 by omega,ofNat_dig hc]
  ·rw[dval_snoc];omega
  ·rw[dval_snoc];omega
theorem itoa_dval {d:Bs} (h:digs d) (h0:decB d=true):Lib.itoa (dval d 0:Int)=d:=by
 obtain⟨h1,h2⟩:=h
 have hl:d.length≠0:=by simpa using h1
 rw[Lib.itoa_nonneg]
 refine(decDigits_dval (d.length - 1) d (by omega) h2 fun h3 h4=>?_).1
 unfold decB at h0
 rw[h4] at h0
 simp at h0
 rw[h0] at h3
 simp at h3
theorem toNat_dig {n:Nat} (h:n<10):(UInt8.ofNat (48+n)).toNat=48+n:=by
 rw[UInt8.toNat_ofNat'];omega
theorem isDg_dig {n:Nat} (h:n<10):isDg (UInt8.ofNat (48+n))=true:=by
 rw[isDg_int,toNat_dig h];simp;omega
theorem decDigits_all:∀n:Nat,dval (Lib.decDigits n) 0=n∧(∀c∈Lib.decDigits n,isDg c=true)∧((Lib.decDigits n).head?=some 48→n=0):=by
 intro n
 induction n using Nat.strongRecOn with
 |ind n ih=>
  by_cases h:n<10
  ·rw[decDigits_lt h]
   refine⟨by simp only[dval,toNat_dig h];omega,by simpa using isDg_dig h,fun e=>?_⟩
   simp only[List.head?_cons,Option.some.injEq] at e
   have:=congrArg UInt8.toNat e
   rw[toNat_dig h] at this
   have h48:(48:UInt8).toNat=48:=rfl
   omega
  ·obtain⟨i1,i2,i3⟩:=ih (n / 10) (by omega)
   rw[decDigits_ge (by omega)]
   refine⟨by rw[dval_snoc,i1,toNat_dig (by omega)];omega,fun c hc=>?_,fun e=>?_⟩
   ·rcases List.mem_append.1 hc with hc|hc
    ·exact i2 c hc
    ·rw[List.mem_singleton.1 hc];exact isDg_dig (by omega)
   ·have hne:=decDigits_ne (n / 10)
    have:(Lib.decDigits (n / 10)).head?=some 48:=by
     rw[←e]
     cases hx:Lib.decDigits (n / 10) with
     |nil=>exact absurd hx hne
     |cons a b=>rfl
    have:=i3 this
    omega
theorem digs_itoa (n:Nat):digs (Lib.decDigits n):=⟨decDigits_ne n,(decDigits_all n).2.1⟩
theorem pnum_itoa {n:Nat} (h:n≤1000000000000):pnum (Lib.decDigits n)=((n:Int),0):=by
 obtain⟨h1,h2,h3⟩:=decDigits_all n
 unfold pnum
 rw[if_neg,h1,if_neg (by omega)]
 rintro⟨h4,h5⟩
 have:=h3 h5
 subst this
 rw[decDigits_lt (by omega)] at h4
 simp at h4
def sep (r:Bs):Prop:=∀c,r.head?=some c→isBl c=true
theorem bl_cases {c:UInt8} (h:isBl c=true):c=32∨c=9∨c=10:=by
 unfold isBl at h;simp at h;rcases h with(h|h)|h<;>simp[h]
theorem bl_hd {c:UInt8} (h:isBl c=true):isHd c=false:=by rcases bl_cases h with rfl|rfl|rfl<;>rfl
theorem bl_dg {c:UInt8} (h:isBl c=true):isDg c=false:=by rcases bl_cases h with rfl|rfl|rfl<;>rfl
theorem runT_take:∀l:Bs,runT (l.take (runT l))=runT l
 |[]=>rfl
 |c::l=>by
  simp only[runT]
  split
  ·rename_i h;simp only[List.take_succ_cons,runT,h,if_true,runT_take l]
  ·rfl
theorem runL_take (l:Bs):runL (l.take (runL l))=runL l:=by
 cases l with
 |nil=>rfl
 |cons c l=>
  cases h:isHd c with
  |true=>simp only[runL,h,if_true,List.take_succ_cons,runT_take l]
  |false=>simp only[runL,h,Bool.false_eq_true,if_false,List.take_zero]
theorem whole_take {l:Bs} (h1:1≤runL l) (h2:runL l≤24):wholeB (l.take (runL l))=true:=by
 have hl:=runL_le l
 have h3:(l.take (runL l)).length=runL l:=by rw[List.length_take];omega
 unfold wholeB
 rw[runL_take,h3]
 have:(l.take (runL l)).isEmpty=false:=by
  cases hx:l.take (runL l) with
  |nil=>rw[hx] at h3;simp at h3;omega
  |cons a b=>rfl
 simp[this,h2]
theorem whole_elim {x:Bs} (h:wholeB x=true):x≠[]∧runL x=x.length∧x.length≤24:=by
 unfold wholeB at h;simp at h
 exact⟨h.1.1,h.1.2,h.2⟩
def kwS:List Bs:=[[102,117,110,99],[108,101,116],[105,102],[101,108,115,101],[119,104,105,108,101],[114,101,116,117,114,110],[97,110,100],[111,114],[110,111,116],[110,117,108,108],[116,114,117,101],[102,97,108,115,101]]
theorem kwL_any (l:Bs):kwL l=kwS.any fun k=>l==k:=by
 unfold kwL kwB
 have:kws=kwS.map mk:=rfl
 rw[this,List.any_map]
 congr 1
 funext k
 exact sEq_mk l k
theorem kwL_whole {x:Bs} (h:kwL x=true):wholeB x=true:=by
 rw[kwL_any,List.any_eq_true] at h
 obtain⟨k,hk,he⟩:=h
 have he:x=k:=by simpa using he
 subst he
 exact(show∀k∈kwS,wholeB k=true by decide) _ hk
def symS:List Bs:=[[61,61],[33,61],[60,61],[62,61]]++sg.map fun c=>[c]
theorem symB_mem {x:Bs} (h:symB x=true):x∈symS:=by
 by_cases hl:x.length=2
 ·unfold symB at h
  simp[hl] at h
  unfold symS
  rcases h with((h|h)|h)|h<;>simp[h]
 ·rw[sym_sg x hl,List.any_eq_true] at h
  obtain⟨c,hc,he⟩:=h
  have he:x=[c]:=by simpa using he
  subst he
  unfold symS
  exact List.mem_append_right _ (List.mem_map.2 ⟨c,hc,rfl⟩)
end Go.Proofs.YtdccglkagfdooaaGreatDoor
namespace Go.Proofs.YtdccglkagfdooaaGreatDoor
open Go.RowKit
theorem esc_cons (c:UInt8) (s:Bs):esc (c::s)=if sp c then 92::c::esc s else c::esc s:=rfl
theorem sp_range {c:UInt8} (h:sp c=true):(decide (c<32)||decide (c>126))=false:=by
 unfold sp at h;simp at h;rcases h with rfl|rfl<;>rfl
theorem okB_cons (c:UInt8) (s:Bs):okB (c::s)=(!(decide (c<32)||decide (c>126))&&okB s):=List.all_cons
theorem not_sp {c:UInt8} (h2:c≠34) (h3:c≠92):sp c=false:=by unfold sp;simp[h2,h3]
theorem txt_ok:∀(l:Bs) (i:Nat) (out:Bs),(txt l i out).2.2=0→out.length≤200→
  ∃s r,l=esc s++34::r∧(txt l i out).1=out++s∧(out++s).length≤200∧okB s=true∧(txt l i out).2.1=i+(esc s).length+1
 |[],i,out,h,_=>by simp[txt] at h
 |c::l,i,out,h,ho=>by
  by_cases h1:(decide (c<32)||decide (c>126))=true
  ·rw[txt_bad h1] at h;simp at h
  have h1:(decide (c<32)||decide (c>126))=false:=by simpa using h1
  by_cases h2:c=34
  ·subst h2
   rw[txt_end]
   exact⟨[],l,rfl,by simp,by simpa using ho,rfl,rfl⟩
  by_cases h3:c=92
  ·subst h3
   cases l with
   |nil=>rw[txt_bs0] at h;simp at h
   |cons d l=>
    by_cases h4:(d==34||d==92)=true
    ·rw[txt_bs2 h4] at h⊢
     split at h
     ·simp at h
     ·rename_i h5
      rw[if_neg h5]
      obtain⟨s,r,e1,e2,e3,e4,e5⟩:=txt_ok l (i+2) (out++[d]) h (by simp;omega)
      have hs:sp d=true:=h4
      refine⟨d::s,r,?_,?_,?_,?_,?_⟩
      ·rw[esc_cons,if_pos hs,e1];rfl
      ·rw[e2];simp
      ·simpa using e3
      ·rw[okB_cons,sp_range hs,e4];rfl
      ·rw[e5,esc_cons,if_pos hs];simp only[List.length_cons];omega
    ·rw[txt_bs1 (by simpa using h4)] at h;simp at h
  rw[txt_go h1 h2 h3] at h⊢
  split at h
  ·simp at h
  ·rename_i h5
   rw[if_neg h5]
   obtain⟨s,r,e1,e2,e3,e4,e5⟩:=txt_ok l (i+1) (out++[c]) h (by simp;omega)
   have hs:¬sp c=true:=by rw[not_sp h2 h3];simp
   refine⟨c::s,r,?_,?_,?_,?_,?_⟩
   ·rw[esc_cons,if_neg hs,e1];rfl
   ·rw[e2];simp
   ·simpa using e3
   ·rw[okB_cons,h1,e4];rfl
   ·rw[e5,esc_cons,if_neg hs];simp only[List.length_cons];omega
theorem txt_esc:∀(s:Bs) (i:Nat) (out r:Bs),okB s=true→(out++s).length≤200→txt (esc s++34::r) i out=(out++s,i+(esc s).length+1,0)
 |[],i,out,r,_,_=>by rw[show esc []++34::r=34::r from rfl,txt_end,List.append_nil];rfl
 |c::s,i,out,r,h,ho=>by
  rw[okB_cons,Bool.and_eq_true] at h
  obtain⟨h1,h2⟩:=h
  have h1:(decide (c<32)||decide (c>126))=false:=by simpa using h1
  simp only[List.length_append,List.length_cons] at ho
  have hrec:∀j,txt (esc s++34::r) j (out++[c])=(out++[c]++s,j+(esc s).length+1,0):=fun j=>txt_esc s j (out++[c]) r h2 (by simp;omega)
  rw[esc_cons]
  cases hs:sp c with
  |true=>
   rw[if_pos rfl]
   show txt (92::c::(esc s++34::r)) i out=_
   rw[txt_bs2 hs,if_neg (by omega),hrec]
   simp only[List.append_assoc,List.singleton_append,List.length_cons,Prod.mk.injEq,true_and,and_true]
   omega
  |false=>
   rw[if_neg (by simp)]
   show txt (c::(esc s++34::r)) i out=_
   have hn:c≠34∧c≠92:=by unfold sp at hs;simpa using hs
   rw[txt_go h1 hn.1 hn.2,if_neg (by omega),hrec]
   simp only[List.append_assoc,List.singleton_append,List.length_cons,Prod.mk.injEq,true_and,and_true]
   omega
theorem tok1_text (c:UInt8) (r:Bs) (k:Int) (h:(tok1 (c::r)).2.2=0):
  textT {(tok1 (c::r)).1 with at_:=k}=((c::r).take (tok1 (c::r)).2.1,0)∧(tok1 (c::r)).1.at_=0:=by
 cases h1:isHd c with
 |true=>
  have a:=runL_pos (r:=r) h1
  rw[tok1_hd h1] at h⊢
  split at h
  ·simp at h
  ·rename_i h2;rw[if_neg h2]
   split
   ·rename_i h3
    refine⟨?_,rfl⟩
    show textT ⟨2,_,0,k⟩=_
    rw[te_word];simp[h3]
   ·rename_i h3
    refine⟨?_,rfl⟩
    show textT ⟨1,_,0,k⟩=_
    rw[te_name];simp[whole_take a (by omega),h3]
 |false=>
 cases h2:isDg c with
 |true=>
  rw[tok1_dg h1 h2] at h⊢
  split at h
  ·rename_i h3;rw[if_pos h3]
   refine⟨?_,rfl⟩
   have hd:=digs_take (l:=r) h2
   generalize (c::r).take (digL (c::r))=d at h3 hd
   show textT ⟨3,[],(pnum d).1,k⟩=_
   have hp:=decB_pnum d hd
   rw[hp] at h3⊢
   split at h3
   ·simp at h3
   ·rename_i h4
    rw[if_neg h4]
    split at h3
    ·simp at h3
    ·rename_i h5
     rw[if_neg h5,te_int,if_pos,itoa_dval hd (by simpa using h4)]
     refine⟨rfl,by simp,?_⟩
     unfold validB;simp;omega
  ·rename_i h3;exact absurd h h3
 |false=>
 cases h3:(c==34) with
 |true=>
  have:c=34:=by simpa using h3
  subst this
  rw[tok1_qt] at h⊢
  split at h
  ·rename_i h4;rw[if_pos h4]
   obtain⟨s,r',e1,e2,e3,e4,e5⟩:=txt_ok r 1 [] h4 (by simp)
   refine⟨?_,rfl⟩
   show textT ⟨4,(txt r 1 []).1,0,k⟩=_
   rw[e2,e5,List.nil_append,te_str]
   have:contB s=true:=by rw[contB_okB,e4];simpa using e3
   rw[if_neg (by simp),if_pos this,e1,show 1+(esc s).length+1=(esc s++[34]).length+1 by simp;omega,List.take_succ_cons,
    show esc s++34::r'=(esc s++[34])++r' by simp,List.take_left']
   rfl
  ·rename_i h4;exact absurd h h4
 |false=>
 cases h4:(c==64) with
 |true=>
  have:c=64:=by simpa using h4
  subst this
  rw[tok1_at] at h⊢
  split at h
  ·simp at h
  ·rename_i h5;rw[if_neg h5]
   split at h
   ·simp at h
   ·rename_i h6;rw[if_neg h6]
    refine⟨?_,rfl⟩
    show textT ⟨6,_,0,k⟩=_
    rw[te_host];simp[whole_take (l:=r) (by omega) (by omega)]
 |false=>
  rw[tok1_sy h1 h2 h3 h4] at h⊢
  split at h
  ·rename_i h5;rw[if_pos h5]
   refine⟨?_,rfl⟩
   show textT ⟨5,_,0,k⟩=_
   rw[te_sym,if_neg (by simp),if_pos h5.2]
  ·rename_i h5;rw[if_neg h5]
   split at h
   ·rename_i h6;rw[if_pos h6]
    refine⟨?_,rfl⟩
    show textT ⟨5,_,0,k⟩=_
    rw[te_sym,if_neg (by simp),if_pos h6]
   ·simp at h
theorem skip0 {c:UInt8} {l:Bs} (h1:isBl c=false) (h2:(c==47&&l.head? ==some 47)=false):skip (c::l)=0:=by
 simp only[skip,skp,h1,h2,Bool.false_eq_true,if_false]
theorem hd_bl {c:UInt8} (h:isHd c=true):isBl c=false∧(c==47)=false:=by
 constructor
 ·cases hb:isBl c with
  |false=>rfl
  |true=>rw[bl_hd hb] at h;cases h
 ·cases hb:c==47 with
  |false=>rfl
  | true => have:c=47:=by simpa using hb
            subst this;cases h
theorem dg_bl {c:UInt8} (h:isDg c=true):isBl c=false∧(c==47)=false∧isHd c=false:=by
 refine⟨?_,?_,?_⟩
 ·cases hb:isBl c with
  |false=>rfl
  |true=>rw[bl_dg hb] at h;cases h
 ·cases hb:c==47 with
  |false=>rfl
  | true => have:c=47:=by simpa using hb
            subst this;cases h
 ·have h1:=dg_int h
  rw[isHd_int];simp;omega
theorem symS_hd:∀x∈symS,isHd (x.headD 0)=false∧isDg (x.headD 0)=false∧(x.headD 0==34)=false∧(x.headD 0==64)=false∧isBl (x.headD 0)=false∧x≠[]∧(x.length=1∨(x.length=2∧(x.headD 0==47)=false)):=by decide
end Go.Proofs.YtdccglkagfdooaaGreatDoor
namespace Go.Proofs.YtdccglkagfdooaaGreatDoor
open Go.RowKit
theorem skip_rest:∀(b:Bool) (l:Bs),skip (l.drop (skp b l))=0
 |_,[]=>by simp[skip,skp]
 |false,c::l=>by
  cases h1:isBl c with
  |true=>simp only[skp,h1,if_true,List.drop_succ_cons];exact skip_rest false l
  |false=>
   cases h2:c==47&&l.head? ==some 47 with
   |true=>simp only[skp,h1,h2,if_true,Bool.false_eq_true,if_false,List.drop_succ_cons];exact skip_rest true l
   |false=>simp only[skp,h1,h2,Bool.false_eq_true,if_false,List.drop_zero]
 |true,c::l=>by
  cases h1:c==10 with
  |true=>simp only[skp,h1,if_true,List.drop_succ_cons];exact skip_rest false l
  |false=>simp only[skp,h1,Bool.false_eq_true,if_false,List.drop_succ_cons];exact skip_rest true l
def LxR:Bs→Nat→List Tok→Prop
 |L,_,[]=>L=[]
 |L,k,t::ts=>∃n,L≠[]∧skip L=0∧1≤n∧n≤L.length∧tok1 L=({t with at_:=0},n,0)∧t.at_=k∧LxR (L.drop (n+skip (L.drop n))) (k+n+skip (L.drop n)) ts
theorem toksF_Rd:∀(f:Nat) (L:Bs) (k:Nat) (out:List Tok),L.length≤f→skip L=0→(toksF f L k out).2.2=0→∃ts,toksF f L k out=(out++ts,0,0)∧LxR L k ts
 |0,L,k,out,hf,_,_=>by
  have:L=[]:=List.length_eq_zero_iff.1 (by omega)
  subst this
  exact⟨[],by simp[toksF],rfl⟩
 |f+1,[],k,out,_,_,_=>⟨[],by simp[toksF],rfl⟩
 |f+1,c::r,k,out,hf,hs,h=>by
  rw[toksF_succ] at h⊢
  split at h
  ·simp at h
  rename_i h1
  rw[if_neg h1]
  split at h
  ·rename_i h2
   rw[if_pos h2]
   obtain⟨l1,l2⟩:=tok1_len c r h2
   obtain⟨t1,t2⟩:=tok1_text c r k h2
   generalize ht:tok1 (c::r)=T at h h2 l1 l2 t1 t2⊢
   obtain⟨t0,n,e⟩:=T
   simp only at h h2 l1 l2 t1 t2⊢
   subst h2
   have hlen:((c::r).drop (n+skip ((c::r).drop n))).length≤f:=by simp only[List.length_drop,List.length_cons] at*;omega
   have hsk:skip ((c::r).drop (n+skip ((c::r).drop n)))=0:=by rw[←List.drop_drop];exact skip_rest false _
   obtain⟨ts,e1,e2⟩:=toksF_Rd f _ _ _ hlen hsk h
   refine⟨{t0 with at_:=k}::ts,by rw[e1];simp,n,by simp,hs,l1,l2,?_,rfl,e2⟩
   rw[ht]
   obtain⟨a,b,d,g⟩:=t0
   simp only at t2
   subst t2
   rfl
  ·rename_i h2;exact absurd h h2
theorem tokens_Rd {s:Bs} (h:(tokens s).2.2=0):∃ts,tokens s=(ts,0,0)∧s.length≤4000∧LxR (s.drop (skip s)) (skip s) ts:=by
 unfold tokens at h⊢
 split at h
 ·simp at h
 ·rename_i h1
  rw[if_neg h1]
  obtain⟨ts,e1,e2⟩:=toksF_Rd s.length (s.drop (skip s)) (skip s) [] (by simp) (skip_rest false s) h
  exact⟨ts,by rw[e1];simp,by omega,e2⟩
def own (s:Bs):Nat→List Tok→Prop
 |_,[]=>True
 |e,t::ts=>∃k:Nat,t.at_=k∧(textT t).2=0∧e≤k∧k+(textT t).1.length≤s.length∧(s.drop k).take (textT t).1.length=(textT t).1∧own s (k+(textT t).1.length) ts
theorem own_le {s:Bs} {e e':Nat} (he:e'≤e):∀{ts:List Tok},own s e ts→own s e' ts
 |[],_=>trivial
 |t::ts,⟨k,h1,h2,h3,h4⟩=>⟨k,h1,h2,by omega,h4⟩
theorem Rd_own {s:Bs}:∀(ts:List Tok) (k:Nat),k≤s.length→LxR (s.drop k) k ts→own s k ts
 |[],k,_,_=>trivial
 |t::ts,k,hk,⟨n,h1,h2,h3,h4,h5,h6,h7⟩=>by
  have ht:textT t=((s.drop k).take n,0):=by
   cases hd:s.drop k with
   |nil=>exact absurd hd h1
   |cons c r=>
    rw[hd] at h5
    have:=(tok1_text c r 0 (by rw[h5])).1
    rw[h5] at this
    exact this
  rw[List.length_drop] at h4
  have hl:((s.drop k).take n).length=n:=by rw[List.length_take,List.length_drop];omega
  rw[List.drop_drop] at h7
  have hz:=skp_le false ((s.drop k).drop n)
  rw[List.length_drop,List.length_drop] at hz
  refine⟨k,h6,by rw[ht],Nat.le_refl _,by rw[ht];simp only[hl];omega,by rw[ht];simp only[hl],?_⟩
  rw[ht];simp only[hl]
  have h8:=Rd_own (s:=s) ts (k+n+skip ((s.drop k).drop n)) (by unfold skip at*;omega) (by rw[show k+n+skip ((s.drop k).drop n)=k+(n+skip ((s.drop k).drop n)) by omega] at h7⊢;exact h7)
  exact own_le (by omega) h8
theorem toksF_err:∀(f:Nat) (L:Bs) (k:Nat) (out:List Tok),(toksF f L k out).2.2≠0→(toksF f L k out).1=[]∧(toksF f L k out).2.1≤k+L.length
 |0,L,k,out,h=>by simp[toksF] at h
 |f+1,[],k,out,h=>by simp[toksF] at h
 |f+1,c::r,k,out,h=>by
  rw[toksF_succ] at h⊢
  split at h
  ·rename_i h1;rw[if_pos h1];exact⟨rfl,by simp⟩
  rename_i h1
  rw[if_neg h1]
  split at h
  ·rename_i h2
   rw[if_pos h2]
   obtain⟨l1,l2⟩:=tok1_len c r h2
   obtain⟨e1,e2⟩:=toksF_err f _ _ _ h
   refine⟨e1,Nat.le_trans e2 ?_⟩
   have hz:=skp_le false ((c::r).drop (tok1 (c::r)).2.1)
   rw[List.length_drop] at hz
   rw[List.length_drop]
   unfold skip
   omega
  ·rename_i h2
   rw[if_neg h2]
   exact⟨rfl,Nat.add_le_add_left (tok1_le' c r) k⟩
theorem tokens_err {s:Bs} (h:(tokens s).2.2≠0):(tokens s).1=[]∧(tokens s).2.1≤s.length:=by
 unfold tokens at h⊢
 split at h
 ·rename_i h1;rw[if_pos h1];exact⟨rfl,Nat.zero_le _⟩
 ·rename_i h1
  rw[if_neg h1]
  obtain⟨e1,e2⟩:=toksF_err _ _ _ _ h
  have:=skp_le false s
  rw[List.length_drop] at e2
  simp only[skip] at*
  exact⟨e1,by omega⟩
theorem tokens_own {s:Bs} (h:(tokens s).2.2=0):own s 0 (tokens s).1:=by
 obtain⟨ts,e1,e2,e3⟩:=tokens_Rd h
 rw[e1]
 exact own_le (Nat.zero_le _) (Rd_own ts (skip s) (skp_le false s) e3)
end Go.Proofs.YtdccglkagfdooaaGreatDoor
namespace Go.Proofs.YtdccglkagfdooaaGreatDoor
def isEnd (c:UInt8):Bool:=isBl c||[41,93,125,44,59,58,40,91].contains c
def sepE (r:Bs):Prop:=∀c,r.head?=some c→isEnd c=true
theorem end_cases {c:UInt8} (h:isEnd c=true):c=32∨c=9∨c=10∨c=41∨c=93∨c=125∨c=44∨c=59∨c=58∨c=40∨c=91:=by
 simp only[isEnd,Bool.or_eq_true,List.contains_cons,List.contains_nil,Bool.or_false,beq_iff_eq] at h
 rcases h with h|h
 ·rcases bl_cases h with h|h|h<;>simp[h]
 ·rcases h with h|h|h|h|h|h|h|h<;>simp[h]
theorem end_hd {c:UInt8} (h:isEnd c=true):isHd c=false:=by
 rcases end_cases h with rfl|rfl|rfl|rfl|rfl|rfl|rfl|rfl|rfl|rfl|rfl<;>rfl
theorem end_dg {c:UInt8} (h:isEnd c=true):isDg c=false:=by
 rcases end_cases h with rfl|rfl|rfl|rfl|rfl|rfl|rfl|rfl|rfl|rfl|rfl<;>rfl
theorem end_47 {c:UInt8} (h:isEnd c=true):c≠47:=by
 rcases end_cases h with rfl|rfl|rfl|rfl|rfl|rfl|rfl|rfl|rfl|rfl|rfl<;>decide
theorem symB_end (c:UInt8) {b:UInt8} (h:isEnd b=true):symB [c,b]=false:=by
 unfold symB
 rcases end_cases h with rfl|rfl|rfl|rfl|rfl|rfl|rfl|rfl|rfl|rfl|rfl<;>simp
theorem runT_appE:∀(x r:Bs),runT x=x.length→sepE r→runT (x++r)=x.length
 |[],r,_,hr=>by
  cases r with
  |nil=>rfl
  |cons c r=>
   have:=hr c rfl
   simp[runT,end_hd this,end_dg this]
 |c::x,r,h,hr=>by
  simp only[runT,List.length_cons] at h
  split at h
  ·rename_i hc
   simp only[List.cons_append,runT,hc,if_true,List.length_cons]
   rw[runT_appE x r (by omega) hr]
  ·omega
theorem runL_appE {x r:Bs} (h0:x≠[]) (h:runL x=x.length) (hr:sepE r):runL (x++r)=x.length:=by
 cases x with
 |nil=>exact absurd rfl h0
 |cons c x=>
  simp only[runL,List.length_cons] at h
  split at h
  ·rename_i hc
   simp only[List.cons_append,runL,hc,if_true,List.length_cons]
   rw[runT_appE x r (by omega) hr]
  ·omega
theorem digL_appE:∀(x r:Bs),(∀c∈x,isDg c=true)→sepE r→digL (x++r)=x.length
 |[],r,_,hr=>by
  cases r with
  |nil=>rfl
  |cons c r=>have:=hr c rfl;simp[digL,end_dg this]
 |c::x,r,h,hr=>by
  simp only[List.cons_append,digL,h c (by simp),if_true,List.length_cons]
  rw[digL_appE x r (fun d hd=>h d (by simp[hd])) hr]
theorem text_tokE (t:Tok) (x:Bs) (h:textT t=(x,0)) (r:Bs) (hr:sepE r):
  x≠[]∧tok1 (x++r)=({t with at_:=0},x.length,0)∧skip (x++r)=0:=by
 obtain⟨K,l,v,a⟩:=t
 by_cases h1:K=1
 ·subst h1
  rw[te_name] at h
  split at h
  ·cases h
  rename_i hv
  split at h
  ·rename_i hw
   have hx:l=x:=congrArg Prod.fst h
   subst hx
   obtain⟨w1,w2,w3⟩:=whole_elim hw.1
   have hra:=runL_appE w1 w2 hr
   cases l with
   |nil=>exact absurd rfl w1
   |cons c l=>
    have hc:isHd c=true:=by
     cases hc:isHd c with
     |true=>rfl
     |false=>simp[runL,hc] at w2
    have hv0:v=0:=by simpa using hv
    refine⟨by simp,?_,skip0 (hd_bl hc).1 (by rw[(hd_bl hc).2];rfl)⟩
    rw[List.cons_append,tok1_hd hc,←List.cons_append,hra,if_neg (by omega),List.take_left' rfl,if_neg (by rw[hw.2];simp),hv0]
  ·cases h
 by_cases h2:K=2
 ·subst h2
  rw[te_word] at h
  split at h
  ·cases h
  rename_i hv
  split at h
  ·rename_i hw
   have hx:l=x:=congrArg Prod.fst h
   subst hx
   obtain⟨w1,w2,w3⟩:=whole_elim (kwL_whole hw)
   have hra:=runL_appE w1 w2 hr
   cases l with
   |nil=>exact absurd rfl w1
   |cons c l=>
    have hc:isHd c=true:=by
     cases hc:isHd c with
     |true=>rfl
     |false=>simp[runL,hc] at w2
    have hv0:v=0:=by simpa using hv
    refine⟨by simp,?_,skip0 (hd_bl hc).1 (by rw[(hd_bl hc).2];rfl)⟩
    rw[List.cons_append,tok1_hd hc,←List.cons_append,hra,if_neg (by omega),List.take_left' rfl,if_pos hw,hv0]
  ·cases h
 by_cases h3:K=3
 ·subst h3
  rw[te_int] at h
  split at h
  ·rename_i hw
   obtain⟨w1,w2,w3⟩:=hw
   have hx:Lib.itoa v=x:=congrArg Prod.fst h
   obtain⟨n,rfl⟩:∃n:Nat,v=n:=⟨v.toNat,by omega⟩
   rw[Lib.itoa_nonneg] at hx
   subst hx
   have hl:l=[]:=by simpa using w1
   subst hl
   have hn:n≤1000000000000:=by unfold validB at w3;simp at w3;omega
   have hp:=pnum_itoa hn
   obtain⟨d1,d2⟩:=digs_itoa n
   have hda:=digL_appE _ r d2 hr
   cases hx:Lib.decDigits n with
   |nil=>exact absurd hx d1
   |cons c x=>
    rw[hx] at hp d2 hda
    have hc:=d2 c (by simp)
    have hb:=dg_bl hc
    refine⟨by simp,?_,skip0 hb.1 (by rw[hb.2.1];rfl)⟩
    rw[List.cons_append,tok1_dg hb.2.2 hc,←List.cons_append,hda,List.take_left' rfl,hp,if_pos rfl]
  ·cases h
 by_cases h4:K=4
 ·subst h4
  rw[te_str] at h
  split at h
  ·cases h
  rename_i hv
  split at h
  ·rename_i hw
   have hx:34::(esc l++[34])=x:=congrArg Prod.fst h
   subst hx
   have hv0:v=0:=by simpa using hv
   rw[contB_okB,Bool.and_eq_true,decide_eq_true_eq] at hw
   have he:(34::(esc l++[34]))++r=34::(esc l++34::r):=by simp
   rw[he]
   refine⟨by simp,?_,skip0 rfl rfl⟩
   rw[tok1_qt,txt_esc l 1 [] r hw.2 (by simpa using hw.1),if_pos rfl,hv0]
   simp only[List.nil_append,List.length_cons,List.length_append,List.length_nil,Prod.mk.injEq,true_and,and_true]
   omega
  ·cases h
 by_cases h5:K=5
 ·subst h5
  rw[te_sym] at h
  split at h
  ·cases h
  rename_i hv
  split at h
  ·rename_i hw
   have hx:l=x:=congrArg Prod.fst h
   subst hx
   have hv0:v=0:=by simpa using hv
   obtain⟨s1,s2,s3,s4,s5,s6,s7⟩:=symS_hd l (symB_mem hw)
   refine⟨s6,?_⟩
   match l,s1,s2,s3,s4,s5,s6,s7,hw with
   |[c],s1,s2,s3,s4,s5,s6,s7,hw=>
    simp only[List.headD_cons] at s1 s2 s3 s4 s5 s7
    rw[List.cons_append,List.nil_append]
    constructor
    ·rw[tok1_sy s1 s2 s3 s4,if_neg,List.take_succ_cons,List.take_zero,if_pos hw,hv0]
     ·rfl
     ·rintro⟨q1,q2⟩
      cases r with
      |nil=>simp at q1
      |cons b r=>
       have:=symB_end c (hr b rfl)
       simp only[List.take_succ_cons,List.take_zero] at q2
       rw[this] at q2;cases q2
    ·refine skip0 s5 ?_
     cases r with
     |nil=>simp
     |cons b r=>
      have hb:=hr b rfl
      have:b≠47:=end_47 hb
      simp[this]
   |[c,d],s1,s2,s3,s4,s5,s6,s7,hw=>
    simp only[List.headD_cons] at s1 s2 s3 s4 s5 s7
    have s8:(c==47)=false:=by
     rcases s7 with s7|s7
     ·simp at s7
     ·exact s7.2
    show tok1 (c::d::r)=_∧skip (c::d::r)=0
    refine⟨?_,skip0 s5 (by rw[s8];rfl)⟩
    rw[tok1_sy s1 s2 s3 s4,if_pos ⟨by simp,by simpa using hw⟩,hv0]
    rfl
   |c::d::e::l,s1,s2,s3,s4,s5,s6,s7,hw=>simp at s7
  ·cases h
 by_cases h6:K=6
 ·subst h6
  rw[te_host] at h
  split at h
  ·cases h
  rename_i hv
  split at h
  ·rename_i hw
   have hx:64::l=x:=congrArg Prod.fst h
   subst hx
   have hv0:v=0:=by simpa using hv
   obtain⟨w1,w2,w3⟩:=whole_elim hw
   have hra:=runL_appE w1 w2 hr
   have hl:l.length≠0:=by simpa using w1
   refine⟨by simp,?_,skip0 rfl rfl⟩
   rw[List.cons_append,tok1_at,hra,if_neg hl,if_neg (by omega),List.take_left' rfl,hv0]
   rfl
  ·cases h
 rw[te_no K l v a ⟨h1,h2,h3,h4,h5,h6⟩] at h
 cases h
theorem open_tok {t:Tok} (ho:opnT t=true) (h:okTk t=true) (r:Bs):(textT t).1≠[]∧tok1 ((textT t).1++r)=({t with at_:=0},(textT t).1.length,0)∧skip ((textT t).1++r)=0:=by
 obtain⟨K,l,v,a⟩:=t
 simp only[opnT,Bool.and_eq_true,decide_eq_true_eq,List.contains_cons,List.contains_nil,Bool.or_false,Bool.or_eq_true,beq_iff_eq] at ho
 obtain⟨rfl,ho⟩:=ho
 have hv:v=0:=by
  simp only[okTk,decide_eq_true_eq] at h
  rw[te_sym] at h
  split at h
  ·cases h
  ·rename_i hv;simpa using hv
 subst hv
 have key:∀c:UInt8,isHd c=false→isDg c=false→(c==34)=false→(c==64)=false→isBl c=false→(c==47)=false→symB [c]=true→(∀d,symB [c,d]=false)→l=[c]→
   (textT ⟨5,l,0,a⟩).1≠[]∧tok1 ((textT ⟨5,l,0,a⟩).1++r)=(⟨5,l,0,0⟩,(textT ⟨5,l,0,a⟩).1.length,0)∧skip ((textT ⟨5,l,0,a⟩).1++r)=0:=by
  intro c s1 s2 s3 s4 s5 s6 hs hd hl
  subst hl
  have e:(textT ⟨5,[c],0,a⟩).1=[c]:=by rw[te_sym,if_neg (by simp),if_pos hs]
  rw[e]
  refine⟨by simp,?_,?_⟩
  ·rw[List.cons_append,List.nil_append,tok1_sy s1 s2 s3 s4,if_neg,List.take_succ_cons,List.take_zero,if_pos hs]
   ·rfl
   ·rintro⟨q1,q2⟩
    cases r with
    |nil=>simp at q1
    |cons b r=>
     simp only[List.take_succ_cons,List.take_zero] at q2
     rw[hd b] at q2;cases q2
  ·exact skip0 s5 (by rw[s6];rfl)
 rcases ho with rfl|rfl|rfl|rfl
 ·exact key 40 rfl rfl rfl rfl rfl rfl rfl (fun d=>by simp[symB]) rfl
 ·exact key 91 rfl rfl rfl rfl rfl rfl rfl (fun d=>by simp[symB]) rfl
 ·exact key 123 rfl rfl rfl rfl rfl rfl rfl (fun d=>by simp[symB]) rfl
 ·exact key 45 rfl rfl rfl rfl rfl rfl rfl (fun d=>by simp[symB]) rfl
def atP:Nat→List Pc→List Tok
 |_,[]=>[]
 |k,.t t::l=>{t with at_:=(k:Int)}::atP (k+(textT t).1.length) l
 |k,.b s::l=>atP (k+s.length) l
theorem atP_sim:∀(l:List Pc) (k:Nat),Sim (atP k l) (tkP l)
 |[],_=>rfl
 | .t t::l,k=>by
  have:=atP_sim l (k+(textT t).1.length)
  simp only[Sim,atP,tkP,List.map_cons,strip] at this⊢
  rw[this]
 | .b s::l,k=>atP_sim l _
theorem skip_bl:∀(s X:Bs),s.all isBl=true→skip (s++X)=s.length+skip X
 |[],X,_=>by simp
 |c::s,X,h=>by
  simp only[List.all_cons,Bool.and_eq_true] at h
  simp only[List.cons_append,skip,skp,h.1,if_true,List.length_cons]
  have:=skip_bl s X h.2
  simp only[skip] at this
  omega
theorem clsT_end {b:Tok} (hc:clsT b=true) (h:okTk b=true) (r:Bs):sepE ((textT b).1++r):=by
 obtain⟨K,l,v,a⟩:=b
 simp only[clsT,Bool.and_eq_true,decide_eq_true_eq,List.contains_cons,List.contains_nil,Bool.or_false,Bool.or_eq_true,beq_iff_eq] at hc
 obtain⟨rfl,hc⟩:=hc
 have e:(textT ⟨5,l,v,a⟩).1=l:=by
  simp only[okTk,decide_eq_true_eq] at h
  rw[te_sym] at h⊢
  split at h
  ·cases h
  ·split at h
   ·rename_i h1 h2;rw[if_neg h1,if_pos h2]
   ·cases h
 rw[e]
 intro c hcc
 rcases hc with rfl|rfl|rfl|rfl|rfl|rfl|rfl|rfl<;>(cases hcc;rfl)
theorem next_end:∀{l:List Pc} {a:Tok},nextOk a l=true→opnT a=false→adj l=true→sepE (txP l)
 |[],a,_,_,_=>fun c h=>by cases h
 | .t b::l,a,hn,ho,hl=>by
  simp only[nextOk,ho,Bool.false_or] at hn
  simp only[adj,Bool.and_eq_true] at hl
  exact clsT_end hn hl.1.1 _
 | .b s::l,a,_,_,hl=>by
  simp only[adj,Bool.and_eq_true,Bool.not_eq_true'] at hl
  intro c hc
  cases s with
  |nil=>simp at hl
  |cons x s=>
   simp only[txP,List.cons_append,List.head?_cons,Option.some.injEq] at hc
   subst hc
   have:=hl.1.2
   simp only[List.all_cons,Bool.and_eq_true] at this
   simp[isEnd,this.1]
theorem pc_read:∀(l:List Pc) (k:Nat),adj l=true→LxR ((txP l).drop (skip (txP l))) (k+skip (txP l)) (atP k l)
 |[],k,_=>rfl
 | .b s::l,k,h=>by
  simp only[adj,Bool.and_eq_true] at h
  have:=pc_read l (k+s.length) h.2
  simp only[txP,atP]
  rw[skip_bl s _ h.1.2,←List.drop_drop,List.drop_left,←Nat.add_assoc]
  exact this
 | .t a::l,k,h=>by
  simp only[adj,Bool.and_eq_true] at h
  have ih:=pc_read l (k+(textT a).1.length) h.2
  have hok:textT a=((textT a).1,0):=by
   have:=h.1.1
   simp only[okTk,decide_eq_true_eq] at this
   rw[←this]
  obtain⟨h1,h2,h3⟩:(textT a).1≠[]∧tok1 ((textT a).1++txP l)=({a with at_:=0},(textT a).1.length,0)∧skip ((textT a).1++txP l)=0:=by
   cases ho:opnT a with
   |true=>exact open_tok ho h.1.1 _
   |false=>exact text_tokE a _ hok _ (next_end h.1.2 ho h.2)
  simp only[txP,atP,h3,List.drop_zero,Nat.add_zero]
  have hlen:(textT a).1.length≠0:=by simpa using h1
  refine⟨(textT a).1.length,by simp[h1],h3,by omega,by simp,h2,rfl,?_⟩
  rw[←List.drop_drop,List.drop_left]
  exact ih
theorem LxR_uniq:∀{ts ts':List Tok} {L:Bs} {k:Nat},LxR L k ts→LxR L k ts'→ts=ts'
 |[],[],_,_,_,_=>rfl
 |[],t::ts,L,k,h,h'=>by obtain⟨n,h1,_⟩:=h';exact absurd h h1
 |t::ts,[],L,k,h,h'=>by obtain⟨n,h1,_⟩:=h;exact absurd h' h1
 |t::ts,t'::ts',L,k,⟨n,h1,h2,h3,h4,h5,h6,h7⟩,⟨n',g1,g2,g3,g4,g5,g6,g7⟩=>by
  rw[h5] at g5
  simp only[Prod.mk.injEq,Tok.mk.injEq,and_true] at g5
  obtain⟨⟨a1,a2,a3⟩,rfl⟩:=g5
  rw[LxR_uniq h7 g7]
  obtain⟨k1,k2,k3,k4⟩:=t
  obtain⟨l1,l2,l3,l4⟩:=t'
  simp only at a1 a2 a3 h6 g6
  subst a1 a2 a3
  rw[h6,g6]
theorem tokens_pc {l:List Pc} (h:adj l=true) (hok:(tokens (txP l)).2.2=0):tokens (txP l)=(atP 0 l,0,0):=by
 obtain⟨ts,h1,h2,h3⟩:=tokens_Rd hok
 have:=pc_read l 0 h
 rw[Nat.zero_add] at this
 rw[h1,LxR_uniq h3 this]
end Go.Proofs.YtdccglkagfdooaaGreatDoor
namespace Go.Proofs.YtdccglkagfdooaaGreatDoor
theorem tokB_text {t:Tok} (h:(textT t).2=0):tokB t=true:=by
 unfold textT at h
 unfold tokB nameB
 split at h
 ·rename_i h1
  obtain⟨h1,h2,h3,h4⟩:=h1
  unfold validB at h4
  simp only[Bool.and_eq_true,decide_eq_true_eq] at h4
  simp[h1,h3,h4.2]
 split at h
 ·cases h
 rename_i hv
 have hv:t.val=0:=by simpa using hv
 split at h
 ·rename_i h1
  rcases h1 with⟨a,b,c⟩|⟨a,b⟩|⟨a,b⟩
  ·simp[a,b,hv];simpa using c
  ·simp[a]
  ·simp[a]
 split at h
 ·rename_i h1;simp[h1.1,h1.2]
 split at h
 ·rename_i h1;simp[h1.1,h1.2]
 ·cases h
theorem own_TokB {s:Bs}:∀{ts:List Tok} {e:Nat},own s e ts→TokB ts
 |[],_,_=>fun t h=>by cases h
 |x::ts,e,⟨k,_,h2,_,_,_,h6⟩=>fun t h=>by
  rcases List.mem_cons.1 h with rfl|h
  ·exact tokB_text h2
  ·exact own_TokB h6 t h
theorem tokens_TokB (s:Bs):TokB (tokens s).1:=by
 by_cases h:(tokens s).2.2=0
 ·exact own_TokB (tokens_own h)
 ·rw[(tokens_err h).1];exact fun t h=>by cases h
theorem parse_trees {s:Bs} {p:Pg} (h:progP s.length (tokens s).1= .ok p):∃Fs,(∀F∈Fs,FnTOk F)∧p=progOf Fs:=progP_put (tokens_TokB s) h
theorem check_lim {Fs:List FnT} (h:∀F∈Fs,FnTOk F):checkP (progOf Fs)=0∨checkP (progOf Fs)=3:=by
 have ho:ordB (progOf Fs)=true:=ord_iff.2 ⟨Fs,h,rfl⟩
 unfold checkP
 rw[ho]
 split
 ·exact .inr rfl
 rw[if_neg (by simp)]
 split
 ·exact .inr rfl
 ·exact .inl rfl
def printT (Fs:List FnT):Bs×Int:=if(tokens (txP (progPc Fs))).2.2≠0 then([],3) else(txP (progPc Fs),0)
theorem round {Fs:List FnT} (h:∀F∈Fs,FnTOk F) (hc:checkP (progOf Fs)=0) (hp:(printT Fs).2=0):parseP (printT Fs).1=(progOf Fs,0,0):=by
 have ht:(tokens (txP (progPc Fs))).2.2=0:=by
  unfold printT at hp
  split at hp
  ·cases hp
  ·rename_i h;simpa using h
 have e1:printT Fs=(txP (progPc Fs),0):=by unfold printT;rw[if_neg (by simp[ht])]
 have e2:=tokens_pc (progPc_adj h) ht
 rw[e1]
 unfold parseP
 rw[e2]
 simp only[ne_eq,not_true_eq_false,if_false]
 have hs:Sim (atP 0 (progPc Fs)) (progT Fs):=by rw[←progPc_tk h];exact atP_sim _ _
 have hg:=progP_good (e:=(txP (progPc Fs)).length) h
 rcases progP_sim (e:=((txP (progPc Fs)).length:Int)) (e':=((txP (progPc Fs)).length:Int)) hs with⟨o,o',_,h2⟩|⟨p,h1,h2⟩
 ·rw[hg] at h2;cases h2
 ·rw[hg] at h2
  cases h2
  rw[h1]
  simp[hc]
end Go.Proofs.YtdccglkagfdooaaGreatDoor
namespace Go.Proofs.YtdccglkagfdooaaGreatDoor
open Go.RowKit
def deferOf:Code→Option (Oper×Oper)
 | .region _ ops false=>match ops.toList with
  |[o1,o2]=>(match o2.op with
   | .defer _=>some (o1,o2)
   |_=>none)
  |_=>none
 |_=>none
def DefK (o:Oper) (st:St) (K:FuncId→List V→Prop):Prop:=match o.op with
 | .defer c=>(match c.callee with
  | .value x=>(match evN st.t x with
   | .fn f 0 cs=>(c.args.isEmpty&&o.guard.isNone&&o.dst.isNone)=true∧K f cs
   |_=>False)
  |_=>False)
 |_=>False
def awpDf (P:Program) (T:Tab):Code→St→(St→Prop)→(FuncId→List V→Code→St→Prop)→Prop
 | .seq x y,st,KR,KD=>(match deferOf x with
  |some (o1,o2)=>aOp P T #[o1,o2] o1 st fun st=>DefK o2 st fun f cs=>KD f cs y st
  |none=>awp P T x st fun e st=>match e with
   | .normal=>awpDf P T y st KR KD
   | .ret=>KR st
   | .exit _=>False)
 |_,_,_,_=>False
section
variable {P:Program} {T:Tab} {B:Fr} {w0:World} {N:Names} {S:Sets} {t t':List V} {m m':List (Option Bk)} {a:Act} {w:World} {pv:Option Value}
structure DefOk (B:Fr) (w0:World) (N:Names) (S:Sets) (t:List V) (m:List (Option Bk)) (a:Act) (w:World) (f:FuncId) (cs:List V) (d:Deferred):Prop where
 sat:Sat B w0 N S t m a w
 us:∃us:Array Value,d={target:= .fn (.func f) us,args:= #[]}∧RelL N S w cs us.toList
theorem awpDf_sound (hT:TOk P T) (hm:P.follows .mixedOrders=true) (hg:FrOk B) {KR:St→Prop} {KD:FuncId→List V→Code→St→Prop} {Q:Exit→Act→World→Prop} (hret:∀a w,OkSt B w0 KR a w→Q .ret a w)
  (hd:∀f cs y N S t m a w d,DefOk B w0 N S t m a w f cs d→KD f cs y ⟨t,m⟩→y.wp P Q {a with defers:=d::a.defers} w):
  ∀(c:Code) (a:Act) (w:World),OkSt B w0 (fun st=>awpDf P T c st KR KD) a w→c.wp P Q a w
 | .seq x y,a,w,⟨N,S,t,m,hs,h⟩=>by
  simp only[awpDf] at h
  split at h
  ·rename_i o1 o2 hdo
   unfold deferOf at hdo
   split at hdo
   rotate_left
   ·cases hdo
   rename_i id ops
   split at hdo
   rotate_left
   ·cases hdo
   rename_i p1 p2 hops
   split at hdo
   rotate_left
   ·cases hdo
   rename_i c hc
   cases hdo
   have ho:ops= #[o1,o2]:=by cases ops;simp at hops;rw[hops]
   subst ho
   refine wp_seq (wp_region_list ?_)
   obtain⟨v,m1,t1,h1,h2,h3⟩:=aOp_spec h rfl
   show wpList P #[o1,o2] _ [o1,o2] a w
   unfold wpList
   refine step_sound hT hs h1 (K:=fun st=>∃t',nfEq st.t t'∧DefK o2 ⟨t',st.m⟩ fun f cs=>KD f cs y ⟨t',st.m⟩) ⟨t1,h2,h3⟩ ?_
   rintro a1 w1 ⟨N1,S1,t2,m2,hs1,t3,he,hk⟩
   have hs2:=hs1.nf he
   simp only[DefK,hc] at hk
   split at hk
   rotate_left
   ·exact hk.elim
   rename_i x hcal
   split at hk
   rotate_left
   ·exact hk.elim
   rename_i f cs hev
   obtain⟨hb,hk⟩:=hk
   simp only[Bool.and_eq_true,Option.isNone_iff_eq_none,Array.isEmpty_iff] at hb
   obtain⟨⟨hb1,hb2⟩,hb3⟩:=hb
   have hx:=hs2.evN x
   rw[hev] at hx
   generalize hu:a1.eval x=u at hx
   cases hx
   rename_i us vs h0 hl hr
   have hus:us= #[]:=by
    have:us.size=0:=h0.symm
    exact Array.eq_empty_of_size_eq_zero this
   subst hus
   unfold wpList
   have hw:Region.wanted o2 (yielded #[o1,o2] a1.tmps)=true:=by simp[Region.wanted,hb2]
   rw[if_pos hw]
   refine .inl ?_
   unfold Oper.wp
   have e:(execOp a1.eval o2).run P w1= .ok (.defer {target:= .fn (.func f) vs,args:= #[]}) w1:=by
    unfold execOp
    simp only[hc]
    simp[resolve,hcal,hu,Deferred.ofValue,hb1]
   rw[e,Oper.upon_defer]
   unfold wpList
   simp only[Exit.then,hb3,Act.put]
   exact hd f cs y N1 S1 t3 m2 a1 w1 _ ⟨hs2,vs,rfl,⟨by simpa using hl,fun i v hv=>by
    have:=hr i v hv
    rw[getD_toList]
    simpa using this⟩⟩ hk
  ·refine wp_seq (Go.wp_mono (awp_sound hT hm hg x _ a w ⟨N,S,t,m,hs,h⟩) ?_)
   intro e a w h
   cases e<;>simp only[QK,Exit.then] at h⊢
   ·exact awpDf_sound hT hm hg hret hd y a w h
   ·obtain⟨_,_,_,_,_,h⟩:=h;exact h.elim
   ·exact hret a w h
   all_goals exact h.elim
 | .skip,a,w,⟨_,_,_,_,_,h⟩=>h.elim
 | .region ..,a,w,⟨_,_,_,_,_,h⟩=>h.elim
 | .cond ..,a,w,⟨_,_,_,_,_,h⟩=>h.elim
 | .block ..,a,w,⟨_,_,_,_,_,h⟩=>h.elim
 | .loop ..,a,w,⟨_,_,_,_,_,h⟩=>h.elim
 | .rangeFunc ..,a,w,⟨_,_,_,_,_,h⟩=>h.elim
 | .exit ..,a,w,⟨_,_,_,_,_,h⟩=>h.elim
 | .label ..,a,w,⟨_,_,_,_,_,h⟩=>h.elim
 | .scope ..,a,w,⟨_,_,_,_,_,h⟩=>h.elim
 | .goto ..,a,w,⟨_,_,_,_,_,h⟩=>h.elim
 | .ret,a,w,⟨_,_,_,_,_,h⟩=>h.elim
 | .refuse ..,a,w,⟨_,_,_,_,_,h⟩=>h.elim
def frD (w:World) (ds:List Deferred):Fr:={keep:=(· <w.heap.size),old:=fun _=>True,lent:=fun _=>none,ref:=w,defers:=ds}
theorem resK_any (hT:TOk P T) {fn:Func} {res:V} (a:Act) (w':World) (h:OkSt B w0 (resK T fn (fun v=>v=res)) a w'):∃v,(results fn a.tmps).run P w'= .ok v w'∧
  RelV (fun _=>none) (fun _ b=>w0.heap.size≤b∧b<w'.heap.size) w' res v:=by
 obtain⟨N,S,t,m,hs,h⟩:=h
 simp only[resK] at h
 obtain⟨us,vs,h1,h2,h3⟩:=resL_sound hT hs _ _ h
 have hrun:∀v,(if h:us.toArray.size=1 then us.toArray[0] else .tuple us.toArray)=v→(results fn a.tmps).run P w'= .ok v w':=by
  intro v hv
  unfold results
  rw[Array.mapM_eq_mapM_toList]
  change Sem.run P (do
   let vs ←List.toArray<$>fn.results.toList.mapM (resR a)
   pure (if h:vs.size=1 then vs[0] else Value.tuple vs)) w'=_
  simp only[Sem.run_bind,Sem.run_map,h1,Result.andThen_ok,Sem.run_pure,hv]
 split at h3
 ·rename_i v
  subst h3
  obtain⟨u,rfl⟩:∃u,us=[u]:=by
   have:=h2.1
   match us,this with
   |[u],_=>exact⟨u,rfl⟩
  exact⟨u,hrun u rfl,by simpa using h2.2 0 v rfl⟩
 ·rename_i hne
  subst h3
  have hsz:us.toArray.size≠1:=by
   intro e
   have:us.length=1:=by simpa using e
   have h4:=h2.1
   rw[this] at h4
   match vs,h4 with
   |[v],_=>exact hne v rfl
  refine⟨.tuple us.toArray,hrun _ (by rw[dif_neg hsz]),.tu _ _ (by simpa using h2.1) fun i v hv=>?_⟩
  have:=h2.2 i v hv
  rw[←getD_toList];simpa using this
theorem resK_ret (hT:TOk P T) {fn:Func} {res:V} {ds:List Deferred} {w:World}:∀(a:Act) (w':World),OkSt (frD w ds) w (resK T fn (fun v=>v=res)) a w'→a.defers=ds∧∃v,(results fn a.tmps).run P w'= .ok v w'∧
  RelV (fun _=>none) (fun _ b=>w.heap.size≤b∧b<w'.heap.size) w' res v∧Below w.heap.size w w':=by
 intro a w' h
 obtain⟨v,h1,h2⟩:=resK_any (P:=P) hT a w' h
 obtain⟨N,S,t,m,hs,_⟩:=h
 exact⟨hs.nodef,v,h1,h2,hs.low.below⟩
theorem Sat.defers {w1:World} {ds:List Deferred} (hs:Sat (frD w1 []) w1 N S t m a w):Sat (frD w1 ds) w1 N S t m {a with defers:=ds} w:=
 ⟨hs.low,rfl,hs.tmps,hs.blk,hs.non,hs.apart,hs.data,hs.fresh,hs.own,hs.base,hs.old,hs.lent,⟨hs.more.size,hs.more.ghost,hs.more.aside,hs.more.inv⟩,hs.stay⟩
def IdleOk (P:Program) (f:FuncId) (n:Nat):Prop:=∀(us:Array Value) (w:World),ginv w→us.size=n→CallsD P f us .returning w fun e u' w'=>e= .returned (.tuple #[])∧u'= .returning∧Below w.heap.size w w'
theorem invoke_fn {f:FuncId} {fn:Func} (hf:P.funcs[f]?=some fn) (hn:(fn.name== "runtime.NumGoroutine")=false) (hb:fn.body.isNone=false) (us:Array Value) (w:World):(invoke (.fn (.func f) us) #[]).run P w= .ok (.enter f us) w:=by
 have hn':¬fn.name= "runtime.NumGoroutine" :=by simpa using hn
 have hb':¬fn.body=none:=by intro e;rw[e] at hb;cases hb
 simp[invoke,callFunc,hf,hn',hb']
theorem dcalls_df (hT:TOk P T) (hm:P.follows .mixedOrders=true) {f:FuncId} {fn:Func} (hf:P.funcs[f]?=some fn) (hn:(fn.name== "runtime.NumGoroutine")=false) {args:List V} {res:V} {fd n:Nat} {fnd:Func} (hfd:P.funcs[fd]?=some fnd) (hnd:(fnd.name== "runtime.NumGoroutine")=false) (hbd:fnd.body.isNone=false)
  (hI:IdleOk P fd n) (h:match fn.body with
   |some c=>enterK fn args fun st=>awpDf P T c st (resK T fn (fun v=>v=res)) fun f' cs y st=>(Nat.beq f' fd&&Nat.beq cs.length n)=true∧awp P T y st (Done T fn res)
   |none=>False):DCalls P f args res:=by
 cases hb:fn.body with
 |none=>rw[hb] at h;exact h.elim
 |some c=>
  rw[hb] at h
  refine⟨⟨fn,hf,hn,by rw[hb];rfl⟩,fun w vs hi hvs=>?_⟩
  simp only[enterK,forceAll_eq] at h
  refine calls_of_wp_defers hf hb (awpDf_sound (B:=frD w []) (w0:=w) hT hm ⟨by intro p hp;simp[frD] at hp,rfl⟩ ?_ ?_ c _ w ⟨_,_,_,_,sat_enter hi hvs fn.ntmps,h⟩)
  ·intro a w' h
   obtain⟨h1,v,h2,h3,h4⟩:=resK_ret (P:=P) hT a w' h
   show Leaves P fn a.tmps _ a.defers .returning w'
   rw[h1]
   exact⟨v,h2,v,rfl,h3,h4⟩
  ·rintro f' cs y N S t m a w1 d ⟨hs,us,rfl,hus⟩ ⟨hk,hy⟩
   simp only[Bool.and_eq_true] at hk
   obtain rfl:=Nat.eq_of_beq_eq_true hk.1
   have hcs:=Nat.eq_of_beq_eq_true hk.2
   have hnil:a.defers=[]:=hs.nodef
   have hs':=hs.defers (ds:=[{target:= .fn (.func f') us,args:= #[]}])
   have hd0:({a with defers:={target:=Target.fn (.func f') us,args:= #[]}::a.defers}:Act)={a with defers:=[{target:= .fn (.func f') us,args:= #[]}]}:=by rw[hnil]
   rw[hd0]
   refine Go.wp_mono (awp_sound hT hm ⟨by intro p hp;simp[frD] at hp,rfl⟩ y _ _ w1 ⟨_,_,_,_,hs',hy⟩) ?_
   have key:∀(a:Act) (w2:World),OkSt (frD w [{target:= .fn (.func f') us,args:= #[]}]) w (resK T fn (fun v=>v=res)) a w2→Leaves P fn a.tmps (fun e w'=>∃v,e= .returned v∧RelV (fun _=>none) (fun _ b=>w.heap.size≤b∧b<w'.heap.size) w' res v∧Below w.heap.size w w') a.defers .returning w2:=by
    rintro a w2 ⟨N,S,t,m,hs2,h⟩
    have hdf:a.defers=[{target:= .fn (.func f') us,args:= #[]}]:=hs2.nodef
    rw[hdf]
    refine leaves_cons (by simp) (invoke_fn hfd hnd hbd us w2) ((hI us w2 hs2.inv (by have:=hus.1;simp at this;omega)).mono ?_)
    rintro e u' w3 ⟨rfl,rfl,hbl⟩
    obtain⟨_,v,h2,h3,h4⟩:=resK_ret (P:=P) hT a w3 ⟨_,_,_,_,hs2.called hbl,h⟩
    exact⟨v,h2,v,rfl,h3,h4⟩
   intro e a w2 h
   cases e<;>simp only[QK] at h<;>first|exact h.elim|skip
   ·exact key a w2 h
   ·obtain⟨N,S,t,m,hs,h⟩:=h;exact h.elim
   ·exact key a w2 h
end
end Go.Proofs.YtdccglkagfdooaaGreatDoor
