/- Texts joined by pack.py: XLx22 XLx27 XLxP1 XLx24 XLxP2 XSy0 -/
import Derived.Test.YtglndfgmlminpaaGreatDoorSx19
import Derived.Test.YtglndfgmlminpaaGreatDoorSx15
set_option maxHeartbeats 4000000
set_option maxRecDepth 100000
namespace Go.Proofs.YtglndfgmlminpaaGreatDoor
open Go.RowKit
abbrev teV (p:Bs×Int):V:= .tu [bstr p.1,int p.2]
theorem eq_nil' (l:Bs) {b:Bool} (h:sEq (mk l) (mk [])=b):l.isEmpty=b:=by rw[sEq_mk] at h;cases l<;>simp_all
theorem fin_te1 {t:Tok} {a:Bs} {e:Int} (h:textT t=(a,e)):V.tu [bstr a,int e]=teV (textT t):=by rw[h]
theorem fin_te2 {t:Tok} {a:Bs} {e:Int} (h:textT t=(64::a,e)):V.tu [.cv (.string (⟨#[64]⟩++mk a)),int e]=teV (textT t):=by
 rw[h,show(⟨#[64]⟩:ByteArray)++mk a=mk (64::a) from mk_app [64] a]
theorem runB (l:Bs) {b:Bool} (h:(((runL l:Nat):Int)==(((mk l).size:Nat):Int))=b):decide (runL l=l.length)=b:=by
 rw[mk_size] at h;rw[←h,Bool.eq_iff_iff];simp;omega
theorem lenB (l:Bs):decide ((((mk l).size:Nat):Int)≤24)=decide (l.length≤24):=by rw[mk_size,Bool.eq_iff_iff];simp;omega
theorem te_int (l:Bs) (v a:Int):textT ⟨3,l,v,a⟩=if l.isEmpty=true∧0≤v∧validB v=true then(Lib.itoa v,0) else([],1):=by
 unfold textT;cases l<;>simp
theorem te_name (l:Bs) (v a:Int):textT ⟨1,l,v,a⟩=if v≠0 then([],1) else if wholeB l=true∧kwL l=false then(l,0) else([],1):=by
 unfold textT;simp
theorem te_word (l:Bs) (v a:Int):textT ⟨2,l,v,a⟩=if v≠0 then([],1) else if kwL l=true then(l,0) else([],1):=by
 unfold textT;simp
theorem te_str (l:Bs) (v a:Int):textT ⟨4,l,v,a⟩=if v≠0 then([],1) else if contB l=true then(34::(esc l++[34]),0) else([],1):=by
 unfold textT;simp
theorem te_sym (l:Bs) (v a:Int):textT ⟨5,l,v,a⟩=if v≠0 then([],1) else if symB l=true then(l,0) else([],1):=by
 unfold textT;simp
theorem te_host (l:Bs) (v a:Int):textT ⟨6,l,v,a⟩=if v≠0 then([],1) else if wholeB l=true then(64::l,0) else([],1):=by
 unfold textT;simp
theorem te_no (K:Int) (l:Bs) (v a:Int) (h:K≠1∧K≠2∧K≠3∧K≠4∧K≠5∧K≠6):textT ⟨K,l,v,a⟩=([],1):=by
 unfold textT;simp[h.1,h.2.1,h.2.2.1,h.2.2.2.1,h.2.2.2.2.1,h.2.2.2.2.2]
theorem xt_int (l:Bs) (v a:Int) (hl:l.length≤1000000) (hv: -9223372036854775808≤v∧v≤9223372036854775807):DCalls Tryz.prog 52 [(⟨3,l,v,a⟩:Tok).V] (teV (textT ⟨3,l,v,a⟩)):=by
 refine sxm [(92,false),(93,false)] Tryz.func52 (by kernel_rfl) ?_
 conv=>whnf
 refine⟨none,by kernel_rfl,?_⟩
 conv=>whnf
 rintro(_|_) w1
 ·conv=>whnf
  refine known true rfl ?_
  conv=>whnf
  rintro(_|_) i1
  ·conv=>whnf
   rintro(_|_) v0
   rotate_left
   ·conv=>whnf
    exact fin_te1 (by rw[te_int];simp[eq_nil' l i1])
   have v0:v=0:=by simpa using v0
   conv=>whnf
   refine known false rfl ?_
   conv=>whnf
   refine known false rfl ?_
   conv=>whnf
   refine known false rfl ?_
   conv=>whnf
   refine known false rfl ?_
   conv=>whnf
   refine known false rfl ?_
   conv=>whnf
   exact fin_te1 (by rw[te_int];simp[eq_nil' l i1])
  conv=>whnf
  rintro(_|_) i2
  ·have i2:¬0≤v:=by simpa using i2
   conv=>whnf
   rintro(_|_) v0
   rotate_left
   ·conv=>whnf
    exact fin_te1 (by rw[te_int];simp[i2])
   have v0:v=0:=by simpa using v0
   conv=>whnf
   refine known false rfl ?_
   conv=>whnf
   refine known false rfl ?_
   conv=>whnf
   refine known false rfl ?_
   conv=>whnf
   refine known false rfl ?_
   conv=>whnf
   refine known false rfl ?_
   conv=>whnf
   exact fin_te1 (by rw[te_int];simp[i2])
  have i2:0≤v:=by simpa using i2
  conv=>whnf
  refine⟨_,x_valid v,?_⟩
  conv=>whnf
  rintro(_|_) i3
  ·conv=>whnf
   rintro(_|_) v0
   rotate_left
   ·conv=>whnf
    exact fin_te1 (by rw[te_int];simp[i3])
   have v0:v=0:=by simpa using v0
   conv=>whnf
   refine known false rfl ?_
   conv=>whnf
   refine known false rfl ?_
   conv=>whnf
   refine known false rfl ?_
   conv=>whnf
   refine known false rfl ?_
   conv=>whnf
   refine known false rfl ?_
   conv=>whnf
   exact fin_te1 (by rw[te_int];simp[i3])
  conv=>whnf
  refine⟨_,x_format v hv.1 hv.2,?_⟩
  conv=>whnf
  exact fin_te1 (by rw[te_int];simp[eq_nil' l i1,i2,i3])
 conv=>whnf
 refine⟨_,x_run l (by omega),?_⟩
 conv=>whnf
 rintro(_|_) w2
 ·conv=>whnf
  refine known true rfl ?_
  conv=>whnf
  rintro(_|_) i1
  ·conv=>whnf
   rintro(_|_) v0
   rotate_left
   ·conv=>whnf
    exact fin_te1 (by rw[te_int];simp[eq_nil' l i1])
   have v0:v=0:=by simpa using v0
   conv=>whnf
   refine known false rfl ?_
   conv=>whnf
   refine known false rfl ?_
   conv=>whnf
   refine known false rfl ?_
   conv=>whnf
   refine known false rfl ?_
   conv=>whnf
   refine known false rfl ?_
   conv=>whnf
   exact fin_te1 (by rw[te_int];simp[eq_nil' l i1])
  conv=>whnf
  rintro(_|_) i2
  ·have i2:¬0≤v:=by simpa using i2
   conv=>whnf
   rintro(_|_) v0
   rotate_left
   ·conv=>whnf
    exact fin_te1 (by rw[te_int];simp[i2])
   have v0:v=0:=by simpa using v0
   conv=>whnf
   refine known false rfl ?_
   conv=>whnf
   refine known false rfl ?_
   conv=>whnf
   refine known false rfl ?_
   conv=>whnf
   refine known false rfl ?_
   conv=>whnf
   refine known false rfl ?_
   conv=>whnf
   exact fin_te1 (by rw[te_int];simp[i2])
  have i2:0≤v:=by simpa using i2
  conv=>whnf
  refine⟨_,x_valid v,?_⟩
  conv=>whnf
  rintro(_|_) i3
  ·conv=>whnf
   rintro(_|_) v0
   rotate_left
   ·conv=>whnf
    exact fin_te1 (by rw[te_int];simp[i3])
   have v0:v=0:=by simpa using v0
   conv=>whnf
   refine known false rfl ?_
   conv=>whnf
   refine known false rfl ?_
   conv=>whnf
   refine known false rfl ?_
   conv=>whnf
   refine known false rfl ?_
   conv=>whnf
   refine known false rfl ?_
   conv=>whnf
   exact fin_te1 (by rw[te_int];simp[i3])
  conv=>whnf
  refine⟨_,x_format v hv.1 hv.2,?_⟩
  conv=>whnf
  exact fin_te1 (by rw[te_int];simp[eq_nil' l i1,i2,i3])
 conv=>whnf
 refine known true rfl ?_
 conv=>whnf
 rintro(_|_) i1
 ·conv=>whnf
  rintro(_|_) v0
  rotate_left
  ·conv=>whnf
   exact fin_te1 (by rw[te_int];simp[eq_nil' l i1])
  have v0:v=0:=by simpa using v0
  conv=>whnf
  refine known false rfl ?_
  conv=>whnf
  refine known false rfl ?_
  conv=>whnf
  refine known false rfl ?_
  conv=>whnf
  refine known false rfl ?_
  conv=>whnf
  refine known false rfl ?_
  conv=>whnf
  exact fin_te1 (by rw[te_int];simp[eq_nil' l i1])
 conv=>whnf
 rintro(_|_) i2
 ·have i2:¬0≤v:=by simpa using i2
  conv=>whnf
  rintro(_|_) v0
  rotate_left
  ·conv=>whnf
   exact fin_te1 (by rw[te_int];simp[i2])
  have v0:v=0:=by simpa using v0
  conv=>whnf
  refine known false rfl ?_
  conv=>whnf
  refine known false rfl ?_
  conv=>whnf
  refine known false rfl ?_
  conv=>whnf
  refine known false rfl ?_
  conv=>whnf
  refine known false rfl ?_
  conv=>whnf
  exact fin_te1 (by rw[te_int];simp[i2])
 have i2:0≤v:=by simpa using i2
 conv=>whnf
 refine⟨_,x_valid v,?_⟩
 conv=>whnf
 rintro(_|_) i3
 ·conv=>whnf
  rintro(_|_) v0
  rotate_left
  ·conv=>whnf
   exact fin_te1 (by rw[te_int];simp[i3])
  have v0:v=0:=by simpa using v0
  conv=>whnf
  refine known false rfl ?_
  conv=>whnf
  refine known false rfl ?_
  conv=>whnf
  refine known false rfl ?_
  conv=>whnf
  refine known false rfl ?_
  conv=>whnf
  refine known false rfl ?_
  conv=>whnf
  exact fin_te1 (by rw[te_int];simp[i3])
 conv=>whnf
 refine⟨_,x_format v hv.1 hv.2,?_⟩
 conv=>whnf
 exact fin_te1 (by rw[te_int];simp[eq_nil' l i1,i2,i3])
end Go.Proofs.YtglndfgmlminpaaGreatDoor
namespace Go.Proofs.YtglndfgmlminpaaGreatDoor
open Go.RowKit
def okB (l:Bs):Bool:=l.all fun c=> !(decide (c<32)||decide (c>126))
theorem contB_okB (l:Bs):contB l=(decide (l.length≤200)&&okB l):=rfl
abbrev qV (l:Bs):V:=if okB l=true then .tu [bstr (34::(esc l++[34])),boo (decide (l.length≤200))] else .tu [bstr [],boo false]
theorem fin_q0 {l:Bs} (h:okB l=false):V.tu [bstr [],boo false]=qV l:=by unfold qV;rw[if_neg (by simp[h])]
theorem fin_q1 {l a:Bs} {b:Bool} (h:okB l=true) (ha:a=34::(esc l++[34])) (hb:b=decide (l.length≤200)):V.tu [bstr a,boo b]=qV l:=by unfold qV;rw[if_pos h,ha,hb]
theorem esc_upto {l:Bs} {k:Nat} (h:k<l.length):esc (l.take (k+1))=esc (l.take k)++esc [l[k]]:=by
 rw[←esc_app,List.take_append_getElem]
theorem and_bs {a b:Bs} {p:Prop} (e:a=b) (h:p):V.cv (.string (mk a))=V.cv (.string (mk b))∧p:=⟨by rw[e],h⟩
theorem x_quoted (l:Bs) (hl:l.length≤281474976710656):DCalls Tryz.prog 155 [bstr l] (qV l):=by
 refine sx Tryz.func155 (by kernel_rfl) ?_
 conv=>whnf
 refine⟨[],Nat,fun k=>[(8,int k),(4,bstr (34::esc (l.take k)))],fun _=>[],fun k=>k≤l.length∧okB (l.drop k)=okB l,fun k=>l.length - k,0,⟨Nat.zero_le _,rfl⟩,?_,?_⟩
 ·refine⟨rfl,?_,?_⟩<;>repeat' (first|exact trivial|exact rfl|refine and_rfl ?_|refine and_two ?_ ?_)
 rintro k ⟨hk1,hk⟩
 have hE:(esc (l.take k)).length≤562949953421312:=by
  have h1:=esc_len (l.take k)
  have h2:=ex_le (l.take k)
  have h3:(l.take k).length≤281474976710656:=by rw[List.length_take];omega
  omega
 conv=>whnf
 rintro(_|_) h2
 ·have h2:l.length≤k:=by simp[mk_size] at h2;omega
  rw[List.drop_eq_nil_of_le h2] at hk
  rw[List.take_of_length_le h2] at hE⊢
  conv=>whnf
  refine⟨by rw[mk_size,show(⟨#[34]⟩:ByteArray).size=1 from rfl,List.length_cons];omega,?_⟩
  conv=>whnf
  rw[show mk (34::esc l)++(⟨#[34]⟩:ByteArray)=mk (34::(esc l++[34])) from mk_app (34::esc l) [34]]
  exact fin_q1 (by rw[←hk];rfl) rfl (by rw[mk_size,Bool.eq_iff_iff];simp;omega)
 have h2:k<l.length:=by simp[mk_size] at h2;omega
 have hw:IntKind.i64.wrap (((k:Nat):Int)+1)=((k+1:Nat):Int):=wrap_succ (by omega)
 rw[drop_cons h2] at hk
 conv=>whnf
 refine⟨by omega,_,mk_at h2,?_⟩
 conv=>whnf
 rintro(_|_) h3
 rotate_left
 ·conv=>whnf
  exact fin_q0 (by rw[←hk];unfold okB;rw[List.all_cons,rangeB];simp at*;omega)
 conv=>whnf
 refine⟨by omega,_,mk_at h2,?_⟩
 conv=>whnf
 rintro(_|_) h4
 rotate_left
 ·conv=>whnf
  exact fin_q0 (by rw[←hk];unfold okB;rw[List.all_cons,rangeB];simp at*;omega)
 have hr:(decide (l[k]<32)||decide (l[k]>126))=false:=by rw[rangeB];simp at*;omega
 have hk:okB (l.drop (k+1))=okB l:=by rw[←hk];unfold okB;rw[List.all_cons,hr];rfl
 clear h3 h4
 have hsp:sp l[k]=(decide ((l[k].toNat:Int)=34)||decide ((l[k].toNat:Int)=92)):=by unfold sp;rw[u8_eq,u8_eq];rfl
 have hU:=esc_upto h2
 rw[esc_one] at hU
 conv=>whnf
 refine⟨by omega,_,mk_at h2,?_⟩
 conv=>whnf
 rintro(_|_) h3
 ·conv=>whnf
  refine⟨by omega,_,mk_at h2,?_⟩
  conv=>whnf
  rintro(_|_) h4
  ·have hs:sp l[k]=false:=by rw[hsp];simp at*;exact⟨h3,h4⟩
   rw[hs,if_neg (by simp)] at hU
   conv=>whnf
   rw[hw]
   refine⟨by omega,by omega,by rw[mk_size];omega,?_⟩
   rw[mk_slice1 h2]
   conv=>whnf
   rw[mk_app]
   refine⟨by rw[mk_size,mk_size];simp;omega,?_⟩
   conv=>whnf
   refine⟨k+1,⟨h2,hk⟩,by dsimp only;omega,?_⟩
   refine⟨rfl,?_,?_⟩<;>repeat' (first|exact trivial|exact rfl|refine and_rfl ?_|refine and_val hw ?_|refine and_bs (by rw[hU];rfl) ?_|refine and_two ?_ ?_)
  have hs:sp l[k]=true:=by rw[hsp];simp at*;exact .inr h4
  rw[hs,if_pos rfl] at hU
  conv=>whnf
  refine⟨by rw[mk_size,show(⟨#[92]⟩:ByteArray).size=1 from rfl,List.length_cons];omega,?_⟩
  conv=>whnf
  rw[hw]
  refine⟨by omega,by omega,by rw[mk_size];omega,?_⟩
  rw[mk_slice1 h2]
  conv=>whnf
  rw[show mk (34::esc (l.take k))++(⟨#[92]⟩:ByteArray)=mk (34::(esc (l.take k)++[92])) from mk_app _ [92],mk_app]
  refine⟨by rw[mk_size,mk_size];simp;omega,?_⟩
  conv=>whnf
  refine⟨k+1,⟨h2,hk⟩,by dsimp only;omega,?_⟩
  refine⟨rfl,?_,?_⟩<;>repeat' (first|exact trivial|exact rfl|refine and_rfl ?_|refine and_val hw ?_|refine and_bs (by rw[hU];simp) ?_|refine and_two ?_ ?_)
 have hs:sp l[k]=true:=by rw[hsp];simp at*;exact .inl h3
 rw[hs,if_pos rfl] at hU
 conv=>whnf
 refine⟨by rw[mk_size,show(⟨#[92]⟩:ByteArray).size=1 from rfl,List.length_cons];omega,?_⟩
 conv=>whnf
 rw[hw]
 refine⟨by omega,by omega,by rw[mk_size];omega,?_⟩
 rw[mk_slice1 h2]
 conv=>whnf
 rw[show mk (34::esc (l.take k))++(⟨#[92]⟩:ByteArray)=mk (34::(esc (l.take k)++[92])) from mk_app _ [92],mk_app]
 refine⟨by rw[mk_size,mk_size];simp;omega,?_⟩
 conv=>whnf
 refine⟨k+1,⟨h2,hk⟩,by dsimp only;omega,?_⟩
 refine⟨rfl,?_,?_⟩<;>repeat' (first|exact trivial|exact rfl|refine and_rfl ?_|refine and_val hw ?_|refine and_bs (by rw[hU];simp) ?_|refine and_two ?_ ?_)
end Go.Proofs.YtglndfgmlminpaaGreatDoor
namespace Go.Proofs.YtglndfgmlminpaaGreatDoor
open Go.RowKit
theorem esc_cons (c:UInt8) (s:Bs):esc (c::s)=if sp c then 92::c::esc s else c::esc s:=rfl
theorem sp_range {c:UInt8} (h:sp c=true):(decide (c<32)||decide (c>126))=false:=by
 unfold sp at h;simp at h;rcases h with rfl|rfl<;>rfl
theorem okB_cons (c:UInt8) (s:Bs):okB (c::s)=(!(decide (c<32)||decide (c>126))&&okB s):=List.all_cons
theorem not_sp {c:UInt8} (h2:c≠34) (h3:c≠92):sp c=false:=by unfold sp;simp[h2,h3]
theorem txt_ok:∀(l:Bs) (i:Nat) (out:Bs),(txt l i out).2.2=0→out.length≤200→
  ∃s r,l=esc s++34::r∧(txt l i out).1=out++s∧(out++s).length≤200∧okB s=true∧(txt l i out).2.1=i+(esc s).length+1
 |[],i,out,h,_=>by simp[txt] at h
 |c::l,i,out,h,ho=>by
  by_cases h1:(decide (c<32)||decide (c>126))=true
  ·rw[txt_bad h1] at h;simp at h
  have h1:(decide (c<32)||decide (c>126))=false:=by simpa using h1
  by_cases h2:c=34
  ·subst h2
   rw[txt_end]
   exact⟨[],l,rfl,by simp,by simpa using ho,rfl,rfl⟩
  by_cases h3:c=92
  ·subst h3
   cases l with
   |nil=>rw[txt_bs0] at h;simp at h
   |cons d l=>
    by_cases h4:(d==34||d==92)=true
    ·rw[txt_bs2 h4] at h⊢
     split at h
     ·simp at h
     ·rename_i h5
      rw[if_neg h5]
      obtain⟨s,r,e1,e2,e3,e4,e5⟩:=txt_ok l (i+2) (out++[d]) h (by simp;omega)
      have hs:sp d=true:=h4
      refine⟨d::s,r,?_,?_,?_,?_,?_⟩
      ·rw[esc_cons,if_pos hs,e1];rfl
      ·rw[e2];simp
      ·simpa using e3
      ·rw[okB_cons,sp_range hs,e4];rfl
      ·rw[e5,esc_cons,if_pos hs];simp only[List.length_cons];omega
    ·rw[txt_bs1 (by simpa using h4)] at h;simp at h
  rw[txt_go h1 h2 h3] at h⊢
  split at h
  ·simp at h
  ·rename_i h5
   rw[if_neg h5]
   obtain⟨s,r,e1,e2,e3,e4,e5⟩:=txt_ok l (i+1) (out++[c]) h (by simp;omega)
   have hs:¬sp c=true:=by rw[not_sp h2 h3];simp
   refine⟨c::s,r,?_,?_,?_,?_,?_⟩
   ·rw[esc_cons,if_neg hs,e1];rfl
   ·rw[e2];simp
   ·simpa using e3
   ·rw[okB_cons,h1,e4];rfl
   ·rw[e5,esc_cons,if_neg hs];simp only[List.length_cons];omega
theorem tok1_text (c:UInt8) (r:Bs) (k:Int) (h:(tok1 (c::r)).2.2=0):
  textT {(tok1 (c::r)).1 with at_:=k}=((c::r).take (tok1 (c::r)).2.1,0)∧(tok1 (c::r)).1.at_=0:=by
 cases h1:isHd c with
 |true=>
  have a:=runL_pos (r:=r) h1
  rw[tok1_hd h1] at h⊢
  split at h
  ·simp at h
  ·rename_i h2;rw[if_neg h2]
   split
   ·rename_i h3
    refine⟨?_,rfl⟩
    show textT ⟨2,_,0,k⟩=_
    rw[te_word];simp[h3]
   ·rename_i h3
    refine⟨?_,rfl⟩
    show textT ⟨1,_,0,k⟩=_
    rw[te_name];simp[whole_take a (by omega),h3]
 |false=>
 cases h2:isDg c with
 |true=>
  rw[tok1_dg h1 h2] at h⊢
  split at h
  ·rename_i h3;rw[if_pos h3]
   refine⟨?_,rfl⟩
   have hd:=digs_take (l:=r) h2
   generalize (c::r).take (digL (c::r))=d at h3 hd
   show textT ⟨3,[],(pnum d).1,k⟩=_
   have hp:=decB_pnum d hd
   rw[hp] at h3⊢
   split at h3
   ·simp at h3
   ·rename_i h4
    rw[if_neg h4]
    split at h3
    ·simp at h3
    ·rename_i h5
     rw[if_neg h5,te_int,if_pos,itoa_dval hd (by simpa using h4)]
     refine⟨rfl,by simp,?_⟩
     unfold validB;simp;omega
  ·rename_i h3;exact absurd h h3
 |false=>
 cases h3:(c==34) with
 |true=>
  have:c=34:=by simpa using h3
  subst this
  rw[tok1_qt] at h⊢
  split at h
  ·rename_i h4;rw[if_pos h4]
   obtain⟨s,r',e1,e2,e3,e4,e5⟩:=txt_ok r 1 [] h4 (by simp)
   refine⟨?_,rfl⟩
   show textT ⟨4,(txt r 1 []).1,0,k⟩=_
   rw[e2,e5,List.nil_append,te_str]
   have:contB s=true:=by rw[contB_okB,e4];simpa using e3
   rw[if_neg (by simp),if_pos this,e1,show 1+(esc s).length+1=(esc s++[34]).length+1 by simp;omega,List.take_succ_cons,
    show esc s++34::r'=(esc s++[34])++r' by simp,List.take_left']
   rfl
  ·rename_i h4;exact absurd h h4
 |false=>
 cases h4:(c==64) with
 |true=>
  have:c=64:=by simpa using h4
  subst this
  rw[tok1_at] at h⊢
  split at h
  ·simp at h
  ·rename_i h5;rw[if_neg h5]
   split at h
   ·simp at h
   ·rename_i h6;rw[if_neg h6]
    refine⟨?_,rfl⟩
    show textT ⟨6,_,0,k⟩=_
    rw[te_host];simp[whole_take (l:=r) (by omega) (by omega)]
 |false=>
  rw[tok1_sy h1 h2 h3 h4] at h⊢
  split at h
  ·rename_i h5;rw[if_pos h5]
   refine⟨?_,rfl⟩
   show textT ⟨5,_,0,k⟩=_
   rw[te_sym,if_neg (by simp),if_pos h5.2]
  ·rename_i h5;rw[if_neg h5]
   split at h
   ·rename_i h6;rw[if_pos h6]
    refine⟨?_,rfl⟩
    show textT ⟨5,_,0,k⟩=_
    rw[te_sym,if_neg (by simp),if_pos h6]
   ·simp at h
end Go.Proofs.YtglndfgmlminpaaGreatDoor
namespace Go.Proofs.YtglndfgmlminpaaGreatDoor
open Go.RowKit
def strD (b:Bs):List D:=[.cv (.string (mk b))]
abbrev strsV (l:List Bs):V:= .sl true 1 (l.map strD)
end Go.Proofs.YtglndfgmlminpaaGreatDoor
namespace Go.Proofs.YtglndfgmlminpaaGreatDoor
open Go.RowKit
theorem skip_rest:∀(b:Bool) (l:Bs),skip (l.drop (skp b l))=0
 |_,[]=>by simp[skip,skp]
 |false,c::l=>by
  cases h1:isBl c with
  |true=>simp only[skp,h1,if_true,List.drop_succ_cons];exact skip_rest false l
  |false=>
   cases h2:c==47&&l.head? ==some 47 with
   |true=>simp only[skp,h1,h2,if_true,Bool.false_eq_true,if_false,List.drop_succ_cons];exact skip_rest true l
   |false=>simp only[skp,h1,h2,Bool.false_eq_true,if_false,List.drop_zero]
 |true,c::l=>by
  cases h1:c==10 with
  |true=>simp only[skp,h1,if_true,List.drop_succ_cons];exact skip_rest false l
  |false=>simp only[skp,h1,Bool.false_eq_true,if_false,List.drop_succ_cons];exact skip_rest true l
def LxR:Bs→Nat→List Tok→Prop
 |L,_,[]=>L=[]
 |L,k,t::ts=>∃n,L≠[]∧skip L=0∧1≤n∧n≤L.length∧tok1 L=({t with at_:=0},n,0)∧t.at_=k∧LxR (L.drop (n+skip (L.drop n))) (k+n+skip (L.drop n)) ts
theorem toksF_Rd:∀(f:Nat) (L:Bs) (k:Nat) (out:List Tok),L.length≤f→skip L=0→(toksF f L k out).2.2=0→∃ts,toksF f L k out=(out++ts,0,0)∧LxR L k ts
 |0,L,k,out,hf,_,_=>by
  have:L=[]:=List.length_eq_zero_iff.1 (by omega)
  subst this
  exact⟨[],by simp[toksF],rfl⟩
 |f+1,[],k,out,_,_,_=>⟨[],by simp[toksF],rfl⟩
 |f+1,c::r,k,out,hf,hs,h=>by
  rw[toksF_succ] at h⊢
  split at h
  ·simp at h
  rename_i h1
  rw[if_neg h1]
  split at h
  ·rename_i h2
   rw[if_pos h2]
   obtain⟨l1,l2⟩:=tok1_len c r h2
   obtain⟨t1,t2⟩:=tok1_text c r k h2
   generalize ht:tok1 (c::r)=T at h h2 l1 l2 t1 t2⊢
   obtain⟨t0,n,e⟩:=T
   simp only at h h2 l1 l2 t1 t2⊢
   subst h2
   have hlen:((c::r).drop (n+skip ((c::r).drop n))).length≤f:=by simp only[List.length_drop,List.length_cons] at*;omega
   have hsk:skip ((c::r).drop (n+skip ((c::r).drop n)))=0:=by rw[←List.drop_drop];exact skip_rest false _
   obtain⟨ts,e1,e2⟩:=toksF_Rd f _ _ _ hlen hsk h
   refine⟨{t0 with at_:=k}::ts,by rw[e1];simp,n,by simp,hs,l1,l2,?_,rfl,e2⟩
   rw[ht]
   obtain⟨a,b,d,g⟩:=t0
   simp only at t2
   subst t2
   rfl
  ·rename_i h2;exact absurd h h2
theorem tokens_Rd {s:Bs} (h:(tokens s).2.2=0):∃ts,tokens s=(ts,0,0)∧s.length≤4000∧LxR (s.drop (skip s)) (skip s) ts:=by
 unfold tokens at h⊢
 split at h
 ·simp at h
 ·rename_i h1
  rw[if_neg h1]
  obtain⟨ts,e1,e2⟩:=toksF_Rd s.length (s.drop (skip s)) (skip s) [] (by simp) (skip_rest false s) h
  exact⟨ts,by rw[e1];simp,by omega,e2⟩
def own (s:Bs):Nat→List Tok→Prop
 |_,[]=>True
 |e,t::ts=>∃k:Nat,t.at_=k∧(textT t).2=0∧e≤k∧k+(textT t).1.length≤s.length∧(s.drop k).take (textT t).1.length=(textT t).1∧own s (k+(textT t).1.length) ts
theorem own_le {s:Bs} {e e':Nat} (he:e'≤e):∀{ts:List Tok},own s e ts→own s e' ts
 |[],_=>trivial
 |t::ts,⟨k,h1,h2,h3,h4⟩=>⟨k,h1,h2,by omega,h4⟩
theorem Rd_own {s:Bs}:∀(ts:List Tok) (k:Nat),k≤s.length→LxR (s.drop k) k ts→own s k ts
 |[],k,_,_=>trivial
 |t::ts,k,hk,⟨n,h1,h2,h3,h4,h5,h6,h7⟩=>by
  have ht:textT t=((s.drop k).take n,0):=by
   cases hd:s.drop k with
   |nil=>exact absurd hd h1
   |cons c r=>
    rw[hd] at h5
    have:=(tok1_text c r 0 (by rw[h5])).1
    rw[h5] at this
    exact this
  rw[List.length_drop] at h4
  have hl:((s.drop k).take n).length=n:=by rw[List.length_take,List.length_drop];omega
  rw[List.drop_drop] at h7
  have hz:=skp_le false ((s.drop k).drop n)
  rw[List.length_drop,List.length_drop] at hz
  refine⟨k,h6,by rw[ht],Nat.le_refl _,by rw[ht];simp only[hl];omega,by rw[ht];simp only[hl],?_⟩
  rw[ht];simp only[hl]
  have h8:=Rd_own (s:=s) ts (k+n+skip ((s.drop k).drop n)) (by unfold skip at*;omega) (by rw[show k+n+skip ((s.drop k).drop n)=k+(n+skip ((s.drop k).drop n)) by omega] at h7⊢;exact h7)
  exact own_le (by omega) h8
theorem toksF_err:∀(f:Nat) (L:Bs) (k:Nat) (out:List Tok),(toksF f L k out).2.2≠0→(toksF f L k out).1=[]∧(toksF f L k out).2.1≤k+L.length
 |0,L,k,out,h=>by simp[toksF] at h
 |f+1,[],k,out,h=>by simp[toksF] at h
 |f+1,c::r,k,out,h=>by
  rw[toksF_succ] at h⊢
  split at h
  ·rename_i h1;rw[if_pos h1];exact⟨rfl,by simp⟩
  rename_i h1
  rw[if_neg h1]
  split at h
  ·rename_i h2
   rw[if_pos h2]
   obtain⟨l1,l2⟩:=tok1_len c r h2
   obtain⟨e1,e2⟩:=toksF_err f _ _ _ h
   refine⟨e1,Nat.le_trans e2 ?_⟩
   have hz:=skp_le false ((c::r).drop (tok1 (c::r)).2.1)
   rw[List.length_drop] at hz
   rw[List.length_drop]
   unfold skip
   omega
  ·rename_i h2
   rw[if_neg h2]
   exact⟨rfl,Nat.add_le_add_left (tok1_le' c r) k⟩
theorem tokens_err {s:Bs} (h:(tokens s).2.2≠0):(tokens s).1=[]∧(tokens s).2.1≤s.length:=by
 unfold tokens at h⊢
 split at h
 ·rename_i h1;rw[if_pos h1];exact⟨rfl,Nat.zero_le _⟩
 ·rename_i h1
  rw[if_neg h1]
  obtain⟨e1,e2⟩:=toksF_err _ _ _ _ h
  have:=skp_le false s
  rw[List.length_drop] at e2
  simp only[skip] at*
  exact⟨e1,by omega⟩
theorem tokens_own {s:Bs} (h:(tokens s).2.2=0):own s 0 (tokens s).1:=by
 obtain⟨ts,e1,e2,e3⟩:=tokens_Rd h
 rw[e1]
 exact own_le (Nat.zero_le _) (Rd_own ts (skip s) (skp_le false s) e3)
end Go.Proofs.YtglndfgmlminpaaGreatDoor
namespace Go.Proofs.YtglndfgmlminpaaGreatDoor
structure Nd where
 kind:Int
 text:Bs
 val:Int
 keys:List Bs
 kids:List Int
structure Fc where
 name:Bs
 params:List Bs
 body:Int
structure Pg where
 nodes:List Nd
 funcs:List Fc
abbrev PRes (α:Type):=Except Int (α×List Tok×List Nd)
def offT (e:Int):List Tok→Int
 |t::_=>t.at_
 |[]=>e
def isTk (k:Int) (s:Bs):List Tok→Bool
 |t::_=>decide (t.kind=k)&&(t.text==s)
 |[]=>false
abbrev isSym (s:Bs) (r:List Tok):Bool:=isTk 5 s r
abbrev isWrd (s:Bs) (r:List Tok):Bool:=isTk 2 s r
def sLP:Bs:=[40]
def sRP:Bs:=[41]
def sLB:Bs:=[91]
def sRB:Bs:=[93]
def sLC:Bs:=[123]
def sRC:Bs:=[125]
def sCm:Bs:=[44]
def sCl:Bs:=[58]
def sSc:Bs:=[59]
def sEq1:Bs:=[61]
def sMi:Bs:=[45]
def wFunc:Bs:=[102,117,110,99]
def wLet:Bs:=[108,101,116]
def wIf:Bs:=[105,102]
def wElse:Bs:=[101,108,115,101]
def wWhile:Bs:=[119,104,105,108,101]
def wReturn:Bs:=[114,101,116,117,114,110]
def wAnd:Bs:=[97,110,100]
def wOr:Bs:=[111,114]
def wNot:Bs:=[110,111,116]
def wNull:Bs:=[110,117,108,108]
def wTrue:Bs:=[116,114,117,101]
def wFalse:Bs:=[102,97,108,115,101]
def opMul:List Bs:=[[42],[47],[37]]
def opAdd:List Bs:=[[43],[45]]
def opCmp:List Bs:=[[61,61],[33,61],[60],[60,61],[62],[62,61]]
def ndM (kind:Int) (text:Bs) (val:Int) (kids:List Int):Nd:=⟨kind,text,val,[],kids⟩
def addN (n:Nd) (r:List Tok) (ns:List Nd):PRes Int:= .ok ((ns.length:Int),r,ns++[n])
def mustT (e:Int) (k:Int) (s:Bs) (r:List Tok):Except Int (List Tok):=if isTk k s r then .ok r.tail else .error (offT e r)
def pKind:List Tok→Int
 |t::_=>t.kind
 |[]=>0
def pText:List Tok→Bs
 |t::_=>t.text
 |[]=>[]
def mustK (e:Int) (k:Int) (r:List Tok):Except Int (Bs×List Tok):=if pKind r=k∧r≠[] then .ok (pText r,r.tail) else .error (offT e r)
abbrev Pars:=List Tok→List Nd→PRes Int
def listF (e:Int) (fin:Bs) (E:Pars):Nat→List Int→List Tok→List Nd→PRes (List Int)
 |0,_,r,_=> .error (offT e r)
 |f+1,l,r,ns=>match E r ns with
  | .error o=> .error o
  | .ok (i,r1,ns1)=>
   if isSym fin r1 then .ok (l++[i],r1.tail,ns1)
   else if isSym sCm r1 then listF e fin E f (l++[i]) r1.tail ns1
   else .error (offT e r1)
def listP (e:Int) (fin:Bs) (E:Pars) (r:List Tok) (ns:List Nd):PRes (List Int):=
 if isSym fin r then .ok ([],r.tail,ns) else listF e fin E r.length [] r ns
def keyF (e:Int) (E:Pars):Nat→List Bs→List Int→List Tok→List Nd→PRes Int
 |0,_,_,r,_=> .error (offT e r)
 |f+1,ks,l,r,ns=>
  if pKind r=4∧r≠[]∧(ks=[]∨Op.bytesLess (ks.getLastD []) (pText r)=true) then
   (match mustT e 5 sCl r.tail with
   | .error o=> .error o
   | .ok r1=>match E r1 ns with
    | .error o=> .error o
    | .ok (i,r2,ns2)=>
     if isSym sRC r2 then addN ⟨7,[],0,ks++[pText r],l++[i]⟩ r2.tail ns2
     else if isSym sCm r2 then keyF e E f (ks++[pText r]) (l++[i]) r2.tail ns2
     else .error (offT e r2))
  else .error (offT e r)
def keyP (e:Int) (E:Pars) (r:List Tok) (ns:List Nd):PRes Int:=
 if isSym sRC r then addN ⟨7,[],0,[],[]⟩ r.tail ns else keyF e E r.length [] [] r ns
def primP (e:Int) (E:Pars) (r:List Tok) (ns:List Nd):PRes Int:=
 match r with
 |[]=> .error e
 |t::r1=>
  if t.kind=3 then addN (ndM 3 [] t.val []) r1 ns
  else if t.kind=4 then addN (ndM 4 t.text 0 []) r1 ns
  else if isWrd wNull r then addN (ndM 1 [] 0 []) r1 ns
  else if isWrd wTrue r then addN (ndM 2 [] 1 []) r1 ns
  else if isWrd wFalse r then addN (ndM 2 [] 0 []) r1 ns
  else if t.kind=1 then
   (if isSym sLP r1 then(match listP e sRP E r1.tail ns with
    | .error o=> .error o
    | .ok (l,r2,ns2)=>addN (ndM 11 t.text 0 l) r2 ns2)
   else addN (ndM 5 t.text 0 []) r1 ns)
  else if t.kind=6 then
   (match mustT e 5 sLP r1 with
   | .error o=> .error o
   | .ok r2=>match listP e sRP E r2 ns with
    | .error o=> .error o
    | .ok (l,r3,ns3)=>addN (ndM 12 t.text 0 l) r3 ns3)
  else if isSym sLB r then
   (match listP e sRB E r1 ns with
   | .error o=> .error o
   | .ok (l,r2,ns2)=>addN (ndM 6 [] 0 l) r2 ns2)
  else if isSym sLC r then keyP e E r1 ns
  else if isSym sLP r then
   (match E r1 ns with
   | .error o=> .error o
   | .ok (i,r2,ns2)=>match mustT e 5 sRP r2 with
    | .error o=> .error o
    | .ok r3=> .ok (i,r3,ns2))
  else .error t.at_
def postF (e:Int) (E:Pars):Nat→Int→List Tok→List Nd→PRes Int
 |0,i,r,ns=> .ok (i,r,ns)
 |f+1,i,r,ns=>
  if isSym sLB r then
   (match E r.tail ns with
   | .error o=> .error o
   | .ok (k,r1,ns1)=>match mustT e 5 sRB r1 with
    | .error o=> .error o
    | .ok r2=>postF e E f (ns1.length:Int) r2 (ns1++[ndM 10 [] 0 [i,k]]))
  else .ok (i,r,ns)
def postP (e:Int) (E:Pars) (r:List Tok) (ns:List Nd):PRes Int:=
 match primP e E r ns with
 | .error o=> .error o
 | .ok (i,r1,ns1)=>postF e E r1.length i r1 ns1
def unaryP (e:Int) (E:Pars):List Tok→List Nd→PRes Int
 |[],ns=>postP e E [] ns
 |t::r1,ns=>
  if isSym sMi (t::r1) then
   (match unaryP e E r1 ns with
   | .error o=> .error o
   | .ok (i,r2,ns2)=>addN (ndM 8 sMi 0 [i]) r2 ns2)
  else postP e E (t::r1) ns
def chainF (k:Int) (ops:List Bs) (O:Pars):Nat→Int→List Tok→List Nd→PRes Int
 |0,i,r,ns=> .ok (i,r,ns)
 |f+1,i,r,ns=>
  if pKind r=k∧ops.contains (pText r)=true∧r≠[] then
   (match O r.tail ns with
   | .error o=> .error o
   | .ok (j,r1,ns1)=>chainF k ops O f (ns1.length:Int) r1 (ns1++[ndM 9 (pText r) 0 [i,j]]))
  else .ok (i,r,ns)
def chainP (k:Int) (ops:List Bs) (O:Pars) (r:List Tok) (ns:List Nd):PRes Int:=
 match O r ns with
 | .error o=> .error o
 | .ok (i,r1,ns1)=>chainF k ops O r1.length i r1 ns1
def termP (e:Int) (E:Pars):Pars:=chainP 5 opMul (unaryP e E)
def sumP (e:Int) (E:Pars):Pars:=chainP 5 opAdd (termP e E)
def cmpP (e:Int) (E:Pars) (r:List Tok) (ns:List Nd):PRes Int:=
 match sumP e E r ns with
 | .error o=> .error o
 | .ok (i,r1,ns1)=>
  if pKind r1=5∧opCmp.contains (pText r1)=true∧r1≠[] then
   (match sumP e E r1.tail ns1 with
   | .error o=> .error o
   | .ok (j,r2,ns2)=>addN (ndM 9 (pText r1) 0 [i,j]) r2 ns2)
  else .ok (i,r1,ns1)
def notP (e:Int) (E:Pars):List Tok→List Nd→PRes Int
 |[],ns=>cmpP e E [] ns
 |t::r1,ns=>
  if isWrd wNot (t::r1) then
   (match notP e E r1 ns with
   | .error o=> .error o
   | .ok (i,r2,ns2)=>addN (ndM 8 wNot 0 [i]) r2 ns2)
  else cmpP e E (t::r1) ns
def andP (e:Int) (E:Pars):Pars:=chainP 2 [wAnd] (notP e E)
def orP (e:Int) (E:Pars):Pars:=chainP 2 [wOr] (andP e E)
def exprP (e:Int):Nat→Pars
 |0=>fun r _=> .error (offT e r)
 |f+1=>orP e (exprP e f)
def valueP (e:Int) (f:Nat) (kind:Int) (text:Bs) (r:List Tok) (ns:List Nd):PRes Int:=
 match exprP e f r ns with
 | .error o=> .error o
 | .ok (i,r1,ns1)=>match mustT e 5 sSc r1 with
  | .error o=> .error o
  | .ok r2=>addN (ndM kind text 0 [i]) r2 ns1
def assigns:List Tok→Bool
 |t::r=>decide (t.kind=1)&&isSym sEq1 r
 |[]=>false
def stmtP (e:Int) (f:Nat) (Bl:Pars) (r:List Tok) (ns:List Nd):PRes Int:=
 if isWrd wLet r then
  (match mustK e 1 r.tail with
  | .error o=> .error o
  | .ok (s,r1)=>match mustT e 5 sEq1 r1 with
   | .error o=> .error o
   | .ok r2=>valueP e f 13 s r2 ns)
 else if isWrd wIf r then
  (match exprP e f r.tail ns with
  | .error o=> .error o
  | .ok (c,r1,ns1)=>match Bl r1 ns1 with
   | .error o=> .error o
   | .ok (b,r2,ns2)=>
    if isWrd wElse r2 then
     (match Bl r2.tail ns2 with
     | .error o=> .error o
     | .ok (b2,r3,ns3)=>addN (ndM 15 [] 0 [c,b,b2]) r3 ns3)
    else addN (ndM 15 [] 0 [c,b]) r2 ns2)
 else if isWrd wWhile r then
  (match exprP e f r.tail ns with
  | .error o=> .error o
  | .ok (c,r1,ns1)=>match Bl r1 ns1 with
   | .error o=> .error o
   | .ok (b,r2,ns2)=>addN (ndM 16 [] 0 [c,b]) r2 ns2)
 else if isWrd wReturn r then valueP e f 17 [] r.tail ns
 else if assigns r then valueP e f 14 (pText r) r.tail.tail ns
 else valueP e f 18 [] r ns
def stmtsF (e:Int) (S:Pars):Nat→List Int→List Tok→List Nd→PRes Int
 |0,_,r,_=> .error (offT e r)
 |g+1,l,r,ns=>
  if isSym sRC r then addN (ndM 19 [] 0 l) r.tail ns
  else match S r ns with
   | .error o=> .error o
   | .ok (i,r1,ns1)=>stmtsF e S g (l++[i]) r1 ns1
def blockP (e:Int):Nat→Pars
 |0=>fun r _=> .error (offT e r)
 |f+1=>fun r ns=>match mustT e 5 sLC r with
  | .error o=> .error o
  | .ok r1=>stmtsF e (stmtP e (f+1) (blockP e f)) (r1.length+1) [] r1 ns
def parF (e:Int):Nat→List Bs→List Tok→Except Int (List Bs×List Tok)
 |0,_,r=> .error (offT e r)
 |f+1,l,r=>match mustK e 1 r with
  | .error o=> .error o
  | .ok (s,r1)=>
   if isSym sRP r1 then .ok (l++[s],r1.tail)
   else if isSym sCm r1 then parF e f (l++[s]) r1.tail
   else .error (offT e r1)
def parP (e:Int) (r:List Tok):Except Int (List Bs×List Tok):=if isSym sRP r then .ok ([],r.tail) else parF e r.length [] r
def funcP (e:Int) (f:Nat) (r:List Tok) (ns:List Nd):Except Int (Fc×List Tok×List Nd):=
 match mustT e 2 wFunc r with
 | .error o=> .error o
 | .ok r1=>match mustK e 1 r1 with
  | .error o=> .error o
  | .ok (s,r2)=>match mustT e 5 sLP r2 with
   | .error o=> .error o
   | .ok r3=>match parP e r3 with
    | .error o=> .error o
    | .ok (ps,r4)=>match blockP e f r4 ns with
     | .error o=> .error o
     | .ok (b,r5,ns5)=> .ok (⟨s,ps,b⟩,r5,ns5)
def progF (e:Int) (f:Nat):Nat→List Fc→List Tok→List Nd→Except Int Pg
 |0,fs,_,ns=> .ok ⟨ns,fs⟩
 |g+1,fs,r,ns=>
  if r=[] then .ok ⟨ns,fs⟩
  else match funcP e f r ns with
   | .error o=> .error o
   | .ok (x,r1,ns1)=>progF e f g (fs++[x]) r1 ns1
def progP (e:Int) (r:List Tok):Except Int Pg:=progF e (r.length+1) r.length [] r []
end Go.Proofs.YtglndfgmlminpaaGreatDoor
