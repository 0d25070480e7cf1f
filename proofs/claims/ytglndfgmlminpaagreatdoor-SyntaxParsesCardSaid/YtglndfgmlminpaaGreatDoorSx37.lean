/- Texts joined by pack.py: XLx28 XSyWJ XSyVA XSyVB XSyVC XSyVD XSyVE XSyWK -/
import Derived.Test.YtglndfgmlminpaaGreatDoorSx20
import Derived.Test.YtglndfgmlminpaaGreatDoorSx36
import Derived.Test.YtglndfgmlminpaaGreatDoorSx26
import Derived.Test.YtglndfgmlminpaaGreatDoorSx19
set_option maxHeartbeats 8000000
set_option maxRecDepth 100000
namespace Go.Proofs.YtglndfgmlminpaaGreatDoor
open Go.RowKit
theorem x_rrun0 (l:Bs) (hl:l.length≤281474976710656):DCalls Tryz.prog 101 [bstr l,int 0] (int (runL l:Nat)):=by
 have:=x_rrun l 0 (Nat.zero_le _) (by omega)
 rw[List.drop_zero,Nat.zero_add] at this
 exact this
theorem lenP (l:Bs) {b:Bool} (h:decide ((((mk l).size:Nat):Int)>0)=b):l.isEmpty= !b:=by
 rw[mk_size] at h;rw[←h];cases l<;>simp
theorem fin_te5 {t:Tok} {a:Bs} {e:Int} (h:textT t=(34::(a++[34]),e)):V.tu [bstr (34::(a++[34])),int e]=teV (textT t):=by rw[h]
theorem x_rformat' (v:Int) (h0:0≤v) (h:validB v=true):DCalls Tryz.prog 154 [int v] (bstr (Lib.itoa v)):=by
 obtain⟨n,rfl⟩:∃n:Nat,v=n:=⟨v.toNat,by omega⟩
 exact x_rformat n (by unfold validB at h;simp at h;omega)
theorem len200 (l:Bs) {b:Bool} (h:decide (l.length≤200)=b) (ho:okB l=true):contB l=b:=by rw[contB_okB,ho,h];simp
theorem xr_name (l:Bs) (v a:Int) (hl:l.length≤281474976710656):DCalls Tryz.prog 113 [(⟨1,l,v,a⟩:Tok).V] (teV (textT ⟨1,l,v,a⟩)):=by
 refine sx Tryz.func113 (by kernel_rfl) ?_
 conv=>whnf
 refine known true rfl ?_
 conv=>whnf
 rintro(_|_) v0
 rotate_left
 ·have v0:v≠0:=by simpa using v0
  conv=>whnf
  exact fin_te1 (by rw[te_name];simp[v0])
 have v0:v=0:=by simpa using v0
 conv=>whnf
 refine⟨none,by kernel_rfl,?_⟩
 conv=>whnf
 rintro(_|_) w1
 ·conv=>whnf
  refine known true rfl ?_
  conv=>whnf
  refine known false rfl ?_
  conv=>whnf
  refine known false rfl ?_
  conv=>whnf
  refine known false rfl ?_
  conv=>whnf
  refine known false rfl ?_
  conv=>whnf
  refine known false rfl ?_
  conv=>whnf
  exact fin_te1 (by rw[te_name];simp[v0,wholeB,lenP l w1])
 conv=>whnf
 rw[lenB]
 rintro(_|_) w2
 ·conv=>whnf
  refine known true rfl ?_
  conv=>whnf
  refine known false rfl ?_
  conv=>whnf
  refine known false rfl ?_
  conv=>whnf
  refine known false rfl ?_
  conv=>whnf
  refine known false rfl ?_
  conv=>whnf
  refine known false rfl ?_
  conv=>whnf
  exact fin_te1 (by rw[te_name];simp[v0,wholeB,w2])
 conv=>whnf
 refine⟨_,x_rrun0 l hl,?_⟩
 conv=>whnf
 refine known true rfl ?_
 conv=>whnf
 rintro(_|_) w3
 ·conv=>whnf
  refine known false rfl ?_
  conv=>whnf
  refine known false rfl ?_
  conv=>whnf
  refine known false rfl ?_
  conv=>whnf
  refine known false rfl ?_
  conv=>whnf
  refine known false rfl ?_
  conv=>whnf
  exact fin_te1 (by rw[te_name];simp[v0,wholeB,runB l w3])
 conv=>whnf
 refine⟨_,x_rkeywordL l,?_⟩
 conv=>whnf
 rintro(_|_) i4
 ·have i4:kwL l=true:=by simpa using i4
  conv=>whnf
  refine known false rfl ?_
  conv=>whnf
  refine known false rfl ?_
  conv=>whnf
  refine known false rfl ?_
  conv=>whnf
  refine known false rfl ?_
  conv=>whnf
  refine known false rfl ?_
  conv=>whnf
  exact fin_te1 (by rw[te_name];simp[v0,i4])
 have i4:kwL l=false:=by simpa using i4
 conv=>whnf
 exact fin_te1 (by rw[te_name];simp[v0,wholeB,lenP l w1,w2,runB l w3,i4])
theorem xr_word (l:Bs) (v a:Int) (hl:l.length≤281474976710656):DCalls Tryz.prog 113 [(⟨2,l,v,a⟩:Tok).V] (teV (textT ⟨2,l,v,a⟩)):=by
 refine sx Tryz.func113 (by kernel_rfl) ?_
 conv=>whnf
 refine known true rfl ?_
 conv=>whnf
 rintro(_|_) v0
 rotate_left
 ·have v0:v≠0:=by simpa using v0
  conv=>whnf
  exact fin_te1 (by rw[te_word];simp[v0])
 have v0:v=0:=by simpa using v0
 conv=>whnf
 refine⟨none,by kernel_rfl,?_⟩
 conv=>whnf
 rintro(_|_) w1
 ·conv=>whnf
  refine known false rfl ?_
  conv=>whnf
  refine known true rfl ?_
  conv=>whnf
  refine⟨_,x_rkeywordL l,?_⟩
  conv=>whnf
  rintro(_|_) i4
  ·conv=>whnf
   refine known false rfl ?_
   conv=>whnf
   refine known false rfl ?_
   conv=>whnf
   refine known false rfl ?_
   conv=>whnf
   refine known false rfl ?_
   conv=>whnf
   exact fin_te1 (by rw[te_word];simp[v0,i4])
  conv=>whnf
  exact fin_te1 (by rw[te_word];simp[v0,i4])
 conv=>whnf
 rw[lenB]
 rintro(_|_) w2
 ·conv=>whnf
  refine known false rfl ?_
  conv=>whnf
  refine known true rfl ?_
  conv=>whnf
  refine⟨_,x_rkeywordL l,?_⟩
  conv=>whnf
  rintro(_|_) i4
  ·conv=>whnf
   refine known false rfl ?_
   conv=>whnf
   refine known false rfl ?_
   conv=>whnf
   refine known false rfl ?_
   conv=>whnf
   refine known false rfl ?_
   conv=>whnf
   exact fin_te1 (by rw[te_word];simp[v0,i4])
  conv=>whnf
  exact fin_te1 (by rw[te_word];simp[v0,i4])
 conv=>whnf
 refine⟨_,x_rrun0 l hl,?_⟩
 conv=>whnf
 refine known false rfl ?_
 conv=>whnf
 refine known true rfl ?_
 conv=>whnf
 refine⟨_,x_rkeywordL l,?_⟩
 conv=>whnf
 rintro(_|_) i4
 ·conv=>whnf
  refine known false rfl ?_
  conv=>whnf
  refine known false rfl ?_
  conv=>whnf
  refine known false rfl ?_
  conv=>whnf
  refine known false rfl ?_
  conv=>whnf
  exact fin_te1 (by rw[te_word];simp[v0,i4])
 conv=>whnf
 exact fin_te1 (by rw[te_word];simp[v0,i4])
theorem xr_int (l:Bs) (v a:Int) (hl:l.length≤281474976710656):DCalls Tryz.prog 113 [(⟨3,l,v,a⟩:Tok).V] (teV (textT ⟨3,l,v,a⟩)):=by
 refine sx Tryz.func113 (by kernel_rfl) ?_
 conv=>whnf
 refine known false rfl ?_
 conv=>whnf
 refine⟨none,by kernel_rfl,?_⟩
 conv=>whnf
 rintro(_|_) w1
 ·conv=>whnf
  refine known false rfl ?_
  conv=>whnf
  refine known false rfl ?_
  conv=>whnf
  refine known false rfl ?_
  conv=>whnf
  refine known false rfl ?_
  conv=>whnf
  refine known true rfl ?_
  conv=>whnf
  rintro(_|_) i1
  ·conv=>whnf
   refine known false rfl ?_
   conv=>whnf
   exact fin_te1 (by rw[te_int];simp[eq_nil' l i1])
  conv=>whnf
  rintro(_|_) i2
  ·have i2:¬0≤v:=by simpa using i2
   conv=>whnf
   refine known false rfl ?_
   conv=>whnf
   exact fin_te1 (by rw[te_int];simp[i2])
  have i2:0≤v:=by simpa using i2
  conv=>whnf
  refine⟨_,x_rvalid v,?_⟩
  conv=>whnf
  rintro(_|_) i3
  ·conv=>whnf
   refine known false rfl ?_
   conv=>whnf
   exact fin_te1 (by rw[te_int];simp[i3])
  conv=>whnf
  refine⟨_,x_rformat' v i2 i3,?_⟩
  conv=>whnf
  exact fin_te1 (by rw[te_int];simp[eq_nil' l i1,i2,i3])
 conv=>whnf
 rw[lenB]
 rintro(_|_) w2
 ·conv=>whnf
  refine known false rfl ?_
  conv=>whnf
  refine known false rfl ?_
  conv=>whnf
  refine known false rfl ?_
  conv=>whnf
  refine known false rfl ?_
  conv=>whnf
  refine known true rfl ?_
  conv=>whnf
  rintro(_|_) i1
  ·conv=>whnf
   refine known false rfl ?_
   conv=>whnf
   exact fin_te1 (by rw[te_int];simp[eq_nil' l i1])
  conv=>whnf
  rintro(_|_) i2
  ·have i2:¬0≤v:=by simpa using i2
   conv=>whnf
   refine known false rfl ?_
   conv=>whnf
   exact fin_te1 (by rw[te_int];simp[i2])
  have i2:0≤v:=by simpa using i2
  conv=>whnf
  refine⟨_,x_rvalid v,?_⟩
  conv=>whnf
  rintro(_|_) i3
  ·conv=>whnf
   refine known false rfl ?_
   conv=>whnf
   exact fin_te1 (by rw[te_int];simp[i3])
  conv=>whnf
  refine⟨_,x_rformat' v i2 i3,?_⟩
  conv=>whnf
  exact fin_te1 (by rw[te_int];simp[eq_nil' l i1,i2,i3])
 conv=>whnf
 refine⟨_,x_rrun0 l hl,?_⟩
 conv=>whnf
 refine known false rfl ?_
 conv=>whnf
 refine known false rfl ?_
 conv=>whnf
 refine known false rfl ?_
 conv=>whnf
 refine known false rfl ?_
 conv=>whnf
 refine known true rfl ?_
 conv=>whnf
 rintro(_|_) i1
 ·conv=>whnf
  refine known false rfl ?_
  conv=>whnf
  exact fin_te1 (by rw[te_int];simp[eq_nil' l i1])
 conv=>whnf
 rintro(_|_) i2
 ·have i2:¬0≤v:=by simpa using i2
  conv=>whnf
  refine known false rfl ?_
  conv=>whnf
  exact fin_te1 (by rw[te_int];simp[i2])
 have i2:0≤v:=by simpa using i2
 conv=>whnf
 refine⟨_,x_rvalid v,?_⟩
 conv=>whnf
 rintro(_|_) i3
 ·conv=>whnf
  refine known false rfl ?_
  conv=>whnf
  exact fin_te1 (by rw[te_int];simp[i3])
 conv=>whnf
 refine⟨_,x_rformat' v i2 i3,?_⟩
 conv=>whnf
 exact fin_te1 (by rw[te_int];simp[eq_nil' l i1,i2,i3])
theorem xr_str (l:Bs) (v a:Int) (hl:l.length≤281474976710656):DCalls Tryz.prog 113 [(⟨4,l,v,a⟩:Tok).V] (teV (textT ⟨4,l,v,a⟩)):=by
 refine sx Tryz.func113 (by kernel_rfl) ?_
 conv=>whnf
 refine known true rfl ?_
 conv=>whnf
 rintro(_|_) v0
 rotate_left
 ·have v0:v≠0:=by simpa using v0
  conv=>whnf
  exact fin_te1 (by rw[te_str];simp[v0])
 have v0:v=0:=by simpa using v0
 conv=>whnf
 refine⟨none,by kernel_rfl,?_⟩
 conv=>whnf
 rintro(_|_) w1
 ·conv=>whnf
  refine known false rfl ?_
  conv=>whnf
  refine known false rfl ?_
  conv=>whnf
  refine known false rfl ?_
  conv=>whnf
  refine known false rfl ?_
  conv=>whnf
  refine known false rfl ?_
  conv=>whnf
  refine known true rfl ?_
  have hq:=x_quoted l hl
  unfold qV at hq
  cases ho:okB l with
  |false=>
   rw[if_neg (by simp[ho])] at hq
   conv=>whnf
   refine⟨_,hq,?_⟩
   conv=>whnf
   refine known false rfl ?_
   conv=>whnf
   exact fin_te1 (by rw[te_str];simp[v0,contB_okB,ho])
  |true=>
   rw[if_pos ho] at hq
   conv=>whnf
   refine⟨_,hq,?_⟩
   conv=>whnf
   rintro(_|_) i5
   ·conv=>whnf
    exact fin_te1 (by rw[te_str];simp[v0,len200 l i5 ho])
   conv=>whnf
   exact fin_te5 (by rw[te_str];simp[v0,len200 l i5 ho])
 conv=>whnf
 rw[lenB]
 rintro(_|_) w2
 ·conv=>whnf
  refine known false rfl ?_
  conv=>whnf
  refine known false rfl ?_
  conv=>whnf
  refine known false rfl ?_
  conv=>whnf
  refine known false rfl ?_
  conv=>whnf
  refine known false rfl ?_
  conv=>whnf
  refine known true rfl ?_
  have hq:=x_quoted l hl
  unfold qV at hq
  cases ho:okB l with
  |false=>
   rw[if_neg (by simp[ho])] at hq
   conv=>whnf
   refine⟨_,hq,?_⟩
   conv=>whnf
   refine known false rfl ?_
   conv=>whnf
   exact fin_te1 (by rw[te_str];simp[v0,contB_okB,ho])
  |true=>
   rw[if_pos ho] at hq
   conv=>whnf
   refine⟨_,hq,?_⟩
   conv=>whnf
   rintro(_|_) i5
   ·conv=>whnf
    exact fin_te1 (by rw[te_str];simp[v0,len200 l i5 ho])
   conv=>whnf
   exact fin_te5 (by rw[te_str];simp[v0,len200 l i5 ho])
 conv=>whnf
 refine⟨_,x_rrun0 l hl,?_⟩
 conv=>whnf
 refine known false rfl ?_
 conv=>whnf
 refine known false rfl ?_
 conv=>whnf
 refine known false rfl ?_
 conv=>whnf
 refine known false rfl ?_
 conv=>whnf
 refine known false rfl ?_
 conv=>whnf
 refine known true rfl ?_
 have hq:=x_quoted l hl
 unfold qV at hq
 cases ho:okB l with
 |false=>
  rw[if_neg (by simp[ho])] at hq
  conv=>whnf
  refine⟨_,hq,?_⟩
  conv=>whnf
  refine known false rfl ?_
  conv=>whnf
  exact fin_te1 (by rw[te_str];simp[v0,contB_okB,ho])
 |true=>
  rw[if_pos ho] at hq
  conv=>whnf
  refine⟨_,hq,?_⟩
  conv=>whnf
  rintro(_|_) i5
  ·conv=>whnf
   exact fin_te1 (by rw[te_str];simp[v0,len200 l i5 ho])
  conv=>whnf
  exact fin_te5 (by rw[te_str];simp[v0,len200 l i5 ho])
theorem xr_sym (l:Bs) (v a:Int) (hl:l.length≤281474976710656):DCalls Tryz.prog 113 [(⟨5,l,v,a⟩:Tok).V] (teV (textT ⟨5,l,v,a⟩)):=by
 refine sx Tryz.func113 (by kernel_rfl) ?_
 conv=>whnf
 refine known true rfl ?_
 conv=>whnf
 rintro(_|_) v0
 rotate_left
 ·have v0:v≠0:=by simpa using v0
  conv=>whnf
  exact fin_te1 (by rw[te_sym];simp[v0])
 have v0:v=0:=by simpa using v0
 conv=>whnf
 refine⟨none,by kernel_rfl,?_⟩
 conv=>whnf
 rintro(_|_) w1
 ·conv=>whnf
  refine known false rfl ?_
  conv=>whnf
  refine known false rfl ?_
  conv=>whnf
  refine known true rfl ?_
  conv=>whnf
  refine⟨_,x_rsymbol l (by omega),?_⟩
  conv=>whnf
  rintro(_|_) i4
  ·conv=>whnf
   refine known false rfl ?_
   conv=>whnf
   refine known false rfl ?_
   conv=>whnf
   refine known false rfl ?_
   conv=>whnf
   exact fin_te1 (by rw[te_sym];simp[v0,i4])
  conv=>whnf
  exact fin_te1 (by rw[te_sym];simp[v0,i4])
 conv=>whnf
 rw[lenB]
 rintro(_|_) w2
 ·conv=>whnf
  refine known false rfl ?_
  conv=>whnf
  refine known false rfl ?_
  conv=>whnf
  refine known true rfl ?_
  conv=>whnf
  refine⟨_,x_rsymbol l (by omega),?_⟩
  conv=>whnf
  rintro(_|_) i4
  ·conv=>whnf
   refine known false rfl ?_
   conv=>whnf
   refine known false rfl ?_
   conv=>whnf
   refine known false rfl ?_
   conv=>whnf
   exact fin_te1 (by rw[te_sym];simp[v0,i4])
  conv=>whnf
  exact fin_te1 (by rw[te_sym];simp[v0,i4])
 conv=>whnf
 refine⟨_,x_rrun0 l hl,?_⟩
 conv=>whnf
 refine known false rfl ?_
 conv=>whnf
 refine known false rfl ?_
 conv=>whnf
 refine known true rfl ?_
 conv=>whnf
 refine⟨_,x_rsymbol l (by omega),?_⟩
 conv=>whnf
 rintro(_|_) i4
 ·conv=>whnf
  refine known false rfl ?_
  conv=>whnf
  refine known false rfl ?_
  conv=>whnf
  refine known false rfl ?_
  conv=>whnf
  exact fin_te1 (by rw[te_sym];simp[v0,i4])
 conv=>whnf
 exact fin_te1 (by rw[te_sym];simp[v0,i4])
theorem xr_host (l:Bs) (v a:Int) (hl:l.length≤281474976710656):DCalls Tryz.prog 113 [(⟨6,l,v,a⟩:Tok).V] (teV (textT ⟨6,l,v,a⟩)):=by
 refine sx Tryz.func113 (by kernel_rfl) ?_
 conv=>whnf
 refine known true rfl ?_
 conv=>whnf
 rintro(_|_) v0
 rotate_left
 ·have v0:v≠0:=by simpa using v0
  conv=>whnf
  exact fin_te1 (by rw[te_host];simp[v0])
 have v0:v=0:=by simpa using v0
 conv=>whnf
 refine⟨none,by kernel_rfl,?_⟩
 conv=>whnf
 rintro(_|_) w1
 ·conv=>whnf
  refine known false rfl ?_
  conv=>whnf
  refine known false rfl ?_
  conv=>whnf
  refine known false rfl ?_
  conv=>whnf
  refine known true rfl ?_
  conv=>whnf
  refine known false rfl ?_
  conv=>whnf
  refine known false rfl ?_
  conv=>whnf
  exact fin_te1 (by rw[te_host];simp[v0,wholeB,lenP l w1])
 conv=>whnf
 rw[lenB]
 rintro(_|_) w2
 ·conv=>whnf
  refine known false rfl ?_
  conv=>whnf
  refine known false rfl ?_
  conv=>whnf
  refine known false rfl ?_
  conv=>whnf
  refine known true rfl ?_
  conv=>whnf
  refine known false rfl ?_
  conv=>whnf
  refine known false rfl ?_
  conv=>whnf
  exact fin_te1 (by rw[te_host];simp[v0,wholeB,w2])
 conv=>whnf
 refine⟨_,x_rrun0 l hl,?_⟩
 conv=>whnf
 refine known false rfl ?_
 conv=>whnf
 refine known false rfl ?_
 conv=>whnf
 refine known false rfl ?_
 conv=>whnf
 refine known true rfl ?_
 conv=>whnf
 rintro(_|_) w3
 ·conv=>whnf
  refine known false rfl ?_
  conv=>whnf
  refine known false rfl ?_
  conv=>whnf
  exact fin_te1 (by rw[te_host];simp[v0,wholeB,runB l w3])
 conv=>whnf
 refine⟨by rw[mk_size,show(⟨#[64]⟩:ByteArray).size=1 from rfl];dsimp only;omega,?_⟩
 conv=>whnf
 exact fin_te2 (by rw[te_host];simp[v0,wholeB,lenP l w1,w2,runB l w3])
theorem xr_no (K:Int) (l:Bs) (v a:Int) (hl:l.length≤281474976710656) (hK:K≠1∧K≠2∧K≠3∧K≠4∧K≠5∧K≠6):DCalls Tryz.prog 113 [(⟨K,l,v,a⟩:Tok).V] (teV (textT ⟨K,l,v,a⟩)):=by
 refine sx Tryz.func113 (by kernel_rfl) ?_
 conv=>whnf
 refine known true (by simp;omega) ?_
 conv=>whnf
 rintro(_|_) v0
 rotate_left
 ·have v0:v≠0:=by simpa using v0
  conv=>whnf
  exact fin_te1 (by rw[te_no _ _ _ _ hK])
 have v0:v=0:=by simpa using v0
 conv=>whnf
 refine⟨none,by kernel_rfl,?_⟩
 conv=>whnf
 rintro(_|_) w1
 ·conv=>whnf
  refine known false (by simp;omega) ?_
  conv=>whnf
  refine known false (by simp;omega) ?_
  conv=>whnf
  refine known false (by simp;omega) ?_
  conv=>whnf
  refine known false (by simp;omega) ?_
  conv=>whnf
  refine known false (by simp;omega) ?_
  conv=>whnf
  refine known false (by simp;omega) ?_
  conv=>whnf
  exact fin_te1 (by rw[te_no _ _ _ _ hK])
 conv=>whnf
 rw[lenB]
 rintro(_|_) w2
 ·conv=>whnf
  refine known false (by simp;omega) ?_
  conv=>whnf
  refine known false (by simp;omega) ?_
  conv=>whnf
  refine known false (by simp;omega) ?_
  conv=>whnf
  refine known false (by simp;omega) ?_
  conv=>whnf
  refine known false (by simp;omega) ?_
  conv=>whnf
  refine known false (by simp;omega) ?_
  conv=>whnf
  exact fin_te1 (by rw[te_no _ _ _ _ hK])
 conv=>whnf
 refine⟨_,x_rrun0 l hl,?_⟩
 conv=>whnf
 refine known false (by simp;omega) ?_
 conv=>whnf
 refine known false (by simp;omega) ?_
 conv=>whnf
 refine known false (by simp;omega) ?_
 conv=>whnf
 refine known false (by simp;omega) ?_
 conv=>whnf
 refine known false (by simp;omega) ?_
 conv=>whnf
 refine known false (by simp;omega) ?_
 conv=>whnf
 exact fin_te1 (by rw[te_no _ _ _ _ hK])
theorem x_rtextOfG (t:Tok) (hl:t.text.length≤281474976710656):DCalls Tryz.prog 113 [t.V] (teV (textT t)):=by
 obtain⟨K,l,v,a⟩:=t
 by_cases h1:K=1
 ·subst h1;exact xr_name l v a hl
 by_cases h2:K=2
 ·subst h2;exact xr_word l v a hl
 by_cases h3:K=3
 ·subst h3;exact xr_int l v a hl
 by_cases h4:K=4
 ·subst h4;exact xr_str l v a hl
 by_cases h5:K=5
 ·subst h5;exact xr_sym l v a hl
 by_cases h6:K=6
 ·subst h6;exact xr_host l v a hl
 exact xr_no K l v a hl ⟨h1,h2,h3,h4,h5,h6⟩
end Go.Proofs.YtglndfgmlminpaaGreatDoor
namespace Go.Proofs.YtglndfgmlminpaaGreatDoor
open Go.RowKit
theorem textN (l:Bs) (h:nameB l=true):textT ⟨1,l,0,0⟩=(l,0):=by
 unfold nameB at h
 simp only[Bool.and_eq_true,Bool.not_eq_true'] at h
 unfold textT
 simp[h.1,h.2]
theorem textN0 (l:Bs):((textT ⟨1,l,0,0⟩).2==0)=nameB l:=by
 cases h:nameB l with
 |true=>rw[textN l h];rfl
 |false=>
  unfold nameB at h
  unfold textT
  simp only[show¬((1:Int)=3) by omega,show¬((1:Int)=2) by omega,show¬((1:Int)=5) by omega,show¬((1:Int)=6) by omega,show¬((1:Int)=4) by omega,false_and,if_false,or_false,ne_eq,not_true_eq_false,true_and]
  rw[if_neg (by cases h1:wholeB l<;>cases h2:kwL l<;>simp_all)]
  rfl
theorem textS0 (l:Bs):((textT ⟨4,l,0,0⟩).2==0)=contB l:=by
 unfold textT
 simp only[show¬((4:Int)=3) by omega,show¬((4:Int)=2) by omega,show¬((4:Int)=5) by omega,show¬((4:Int)=6) by omega,show¬((4:Int)=1) by omega,false_and,if_false,or_false,ne_eq,not_true_eq_false,true_and]
 cases h:contB l<;>simp
theorem x_rname08 (l:Bs) (hl:l.length≤281474976710656):DCalls Tryz.prog 70 [bstr l] (boo (nameB l)):=by
 refine sx Tryz.func70 (by kernel_rfl) ?_
 conv=>whnf
 refine⟨_,x_rtextOfG ⟨1,l,0,0⟩ hl,?_⟩
 conv=>whnf
 rw[←textN0]
theorem x_rstr08 (l:Bs) (hl:l.length≤281474976710656):DCalls Tryz.prog 114 [bstr l] (boo (contB l)):=by
 refine sx Tryz.func114 (by kernel_rfl) ?_
 conv=>whnf
 refine⟨_,x_rtextOfG ⟨4,l,0,0⟩ hl,?_⟩
 conv=>whnf
 rw[←textS0]
theorem x_rcompares (l:Bs):DCalls Tryz.prog 156 [bstr l] (boo (opCmp.contains l)):=by
 by_cases h0:l=[61,61]
 ·subst h0
  refine sx Tryz.func156 (by kernel_rfl) ?_
  repeat((conv=>whnf);first|refine known true ((litE _ _).trans rfl) ?_|refine known false ((litE _ _).trans rfl) ?_|refine known true rfl ?_|refine known false rfl ?_)
  try((conv=>whnf)<;>first|rfl|exact fin_boo ((litE _ _).trans rfl))
 by_cases h1:l=[33,61]
 ·subst h1
  refine sx Tryz.func156 (by kernel_rfl) ?_
  repeat((conv=>whnf);first|refine known true ((litE _ _).trans rfl) ?_|refine known false ((litE _ _).trans rfl) ?_|refine known true rfl ?_|refine known false rfl ?_)
  try((conv=>whnf)<;>first|rfl|exact fin_boo ((litE _ _).trans rfl))
 by_cases h2:l=[60]
 ·subst h2
  refine sx Tryz.func156 (by kernel_rfl) ?_
  repeat((conv=>whnf);first|refine known true ((litE _ _).trans rfl) ?_|refine known false ((litE _ _).trans rfl) ?_|refine known true rfl ?_|refine known false rfl ?_)
  try((conv=>whnf)<;>first|rfl|exact fin_boo ((litE _ _).trans rfl))
 by_cases h3:l=[60,61]
 ·subst h3
  refine sx Tryz.func156 (by kernel_rfl) ?_
  repeat((conv=>whnf);first|refine known true ((litE _ _).trans rfl) ?_|refine known false ((litE _ _).trans rfl) ?_|refine known true rfl ?_|refine known false rfl ?_)
  try((conv=>whnf)<;>first|rfl|exact fin_boo ((litE _ _).trans rfl))
 by_cases h4:l=[62]
 ·subst h4
  refine sx Tryz.func156 (by kernel_rfl) ?_
  repeat((conv=>whnf);first|refine known true ((litE _ _).trans rfl) ?_|refine known false ((litE _ _).trans rfl) ?_|refine known true rfl ?_|refine known false rfl ?_)
  try((conv=>whnf)<;>first|rfl|exact fin_boo ((litE _ _).trans rfl))
 by_cases h5:l=[62,61]
 ·subst h5
  refine sx Tryz.func156 (by kernel_rfl) ?_
  repeat((conv=>whnf);first|refine known true ((litE _ _).trans rfl) ?_|refine known false ((litE _ _).trans rfl) ?_|refine known true rfl ?_|refine known false rfl ?_)
  try((conv=>whnf)<;>first|rfl|exact fin_boo ((litE _ _).trans rfl))
 rw[show opCmp.contains l=false by simp[opCmp,h0,h1,h2,h3,h4,h5]]
 refine sx Tryz.func156 (by kernel_rfl) ?_
 repeat((conv=>whnf);first|refine known false (snE h0) ?_|refine known false (snE h1) ?_|refine known false (snE h2) ?_|refine known false (snE h3) ?_|refine known false (snE h4) ?_|refine known false (snE h5) ?_|refine known false rfl ?_)
 try((conv=>whnf)<;>first|rfl|exact fin_boo (snE h0)|exact fin_boo (snE h1)|exact fin_boo (snE h2)|exact fin_boo (snE h3)|exact fin_boo (snE h4)|exact fin_boo (snE h5))
theorem x_rbinary08 (l:Bs):DCalls Tryz.prog 115 [bstr l] (boo (decide (0<binL l))):=by
 by_cases h0:l=[111,114]
 ·subst h0
  refine sx Tryz.func115 (by kernel_rfl) ?_
  repeat((conv=>whnf);first|refine known true ((litE _ _).trans rfl) ?_|refine known false ((litE _ _).trans rfl) ?_|refine⟨_,x_rcompares _,?_⟩|refine known true rfl ?_|refine known false rfl ?_)
  try((conv=>whnf)<;>first|rfl|exact fin_boo ((litE _ _).trans rfl))
 by_cases h1:l=[97,110,100]
 ·subst h1
  refine sx Tryz.func115 (by kernel_rfl) ?_
  repeat((conv=>whnf);first|refine known true ((litE _ _).trans rfl) ?_|refine known false ((litE _ _).trans rfl) ?_|refine⟨_,x_rcompares _,?_⟩|refine known true rfl ?_|refine known false rfl ?_)
  try((conv=>whnf)<;>first|rfl|exact fin_boo ((litE _ _).trans rfl))
 by_cases h2:l=[61,61]
 ·subst h2
  refine sx Tryz.func115 (by kernel_rfl) ?_
  repeat((conv=>whnf);first|refine known true ((litE _ _).trans rfl) ?_|refine known false ((litE _ _).trans rfl) ?_|refine⟨_,x_rcompares _,?_⟩|refine known true rfl ?_|refine known false rfl ?_)
  try((conv=>whnf)<;>first|rfl|exact fin_boo ((litE _ _).trans rfl))
 by_cases h3:l=[33,61]
 ·subst h3
  refine sx Tryz.func115 (by kernel_rfl) ?_
  repeat((conv=>whnf);first|refine known true ((litE _ _).trans rfl) ?_|refine known false ((litE _ _).trans rfl) ?_|refine⟨_,x_rcompares _,?_⟩|refine known true rfl ?_|refine known false rfl ?_)
  try((conv=>whnf)<;>first|rfl|exact fin_boo ((litE _ _).trans rfl))
 by_cases h4:l=[60]
 ·subst h4
  refine sx Tryz.func115 (by kernel_rfl) ?_
  repeat((conv=>whnf);first|refine known true ((litE _ _).trans rfl) ?_|refine known false ((litE _ _).trans rfl) ?_|refine⟨_,x_rcompares _,?_⟩|refine known true rfl ?_|refine known false rfl ?_)
  try((conv=>whnf)<;>first|rfl|exact fin_boo ((litE _ _).trans rfl))
 by_cases h5:l=[60,61]
 ·subst h5
  refine sx Tryz.func115 (by kernel_rfl) ?_
  repeat((conv=>whnf);first|refine known true ((litE _ _).trans rfl) ?_|refine known false ((litE _ _).trans rfl) ?_|refine⟨_,x_rcompares _,?_⟩|refine known true rfl ?_|refine known false rfl ?_)
  try((conv=>whnf)<;>first|rfl|exact fin_boo ((litE _ _).trans rfl))
 by_cases h6:l=[62]
 ·subst h6
  refine sx Tryz.func115 (by kernel_rfl) ?_
  repeat((conv=>whnf);first|refine known true ((litE _ _).trans rfl) ?_|refine known false ((litE _ _).trans rfl) ?_|refine⟨_,x_rcompares _,?_⟩|refine known true rfl ?_|refine known false rfl ?_)
  try((conv=>whnf)<;>first|rfl|exact fin_boo ((litE _ _).trans rfl))
 by_cases h7:l=[62,61]
 ·subst h7
  refine sx Tryz.func115 (by kernel_rfl) ?_
  repeat((conv=>whnf);first|refine known true ((litE _ _).trans rfl) ?_|refine known false ((litE _ _).trans rfl) ?_|refine⟨_,x_rcompares _,?_⟩|refine known true rfl ?_|refine known false rfl ?_)
  try((conv=>whnf)<;>first|rfl|exact fin_boo ((litE _ _).trans rfl))
 by_cases h8:l=[43]
 ·subst h8
  refine sx Tryz.func115 (by kernel_rfl) ?_
  repeat((conv=>whnf);first|refine known true ((litE _ _).trans rfl) ?_|refine known false ((litE _ _).trans rfl) ?_|refine⟨_,x_rcompares _,?_⟩|refine known true rfl ?_|refine known false rfl ?_)
  try((conv=>whnf)<;>first|rfl|exact fin_boo ((litE _ _).trans rfl))
 by_cases h9:l=[45]
 ·subst h9
  refine sx Tryz.func115 (by kernel_rfl) ?_
  repeat((conv=>whnf);first|refine known true ((litE _ _).trans rfl) ?_|refine known false ((litE _ _).trans rfl) ?_|refine⟨_,x_rcompares _,?_⟩|refine known true rfl ?_|refine known false rfl ?_)
  try((conv=>whnf)<;>first|rfl|exact fin_boo ((litE _ _).trans rfl))
 by_cases h10:l=[42]
 ·subst h10
  refine sx Tryz.func115 (by kernel_rfl) ?_
  repeat((conv=>whnf);first|refine known true ((litE _ _).trans rfl) ?_|refine known false ((litE _ _).trans rfl) ?_|refine⟨_,x_rcompares _,?_⟩|refine known true rfl ?_|refine known false rfl ?_)
  try((conv=>whnf)<;>first|rfl|exact fin_boo ((litE _ _).trans rfl))
 by_cases h11:l=[47]
 ·subst h11
  refine sx Tryz.func115 (by kernel_rfl) ?_
  repeat((conv=>whnf);first|refine known true ((litE _ _).trans rfl) ?_|refine known false ((litE _ _).trans rfl) ?_|refine⟨_,x_rcompares _,?_⟩|refine known true rfl ?_|refine known false rfl ?_)
  try((conv=>whnf)<;>first|rfl|exact fin_boo ((litE _ _).trans rfl))
 by_cases h12:l=[37]
 ·subst h12
  refine sx Tryz.func115 (by kernel_rfl) ?_
  repeat((conv=>whnf);first|refine known true ((litE _ _).trans rfl) ?_|refine known false ((litE _ _).trans rfl) ?_|refine⟨_,x_rcompares _,?_⟩|refine known true rfl ?_|refine known false rfl ?_)
  try((conv=>whnf)<;>first|rfl|exact fin_boo ((litE _ _).trans rfl))
 rw[show decide (0<binL l)=false by simp[binL,wOr,wAnd,opCmp,opAdd,opMul,h0,h1,h2,h3,h4,h5,h6,h7,h8,h9,h10,h11,h12]]
 refine sx Tryz.func115 (by kernel_rfl) ?_
 repeat((conv=>whnf);first|refine known false (snE h0) ?_|refine known false (snE h1) ?_|refine known false (snE h2) ?_|refine known false (snE h3) ?_|refine known false (snE h4) ?_|refine known false (snE h5) ?_|refine known false (snE h6) ?_|refine known false (snE h7) ?_|refine known false (snE h8) ?_|refine known false (snE h9) ?_|refine known false (snE h10) ?_|refine known false (snE h11) ?_|refine known false (snE h12) ?_|(refine⟨_,x_rcompares _,?_⟩;rw[show opCmp.contains l=false by simp[opCmp,h2,h3,h4,h5,h6,h7]])|refine known false rfl ?_)
 try((conv=>whnf)<;>first|rfl|exact fin_boo (snE h0)|exact fin_boo (snE h1)|exact fin_boo (snE h2)|exact fin_boo (snE h3)|exact fin_boo (snE h4)|exact fin_boo (snE h5)|exact fin_boo (snE h6)|exact fin_boo (snE h7)|exact fin_boo (snE h8)|exact fin_boo (snE h9)|exact fin_boo (snE h10)|exact fin_boo (snE h11)|exact fin_boo (snE h12))
theorem x_rexpression (n:Nd):DCalls Tryz.prog 117 [n.V] (boo (exprK n.kind)):=by
 obtain⟨k,s,v,ks,js⟩:=n
 refine sx Tryz.func117 (by kernel_rfl) ?_
 unfold exprK
 conv=>whnf
 rintro(_|_) h
 ·(conv=>whnf);exact fin_boo (by simp at*;omega)
 ·(conv=>whnf);exact fin_boo (by simp at*;omega)
theorem x_rstatement (n:Nd):DCalls Tryz.prog 116 [n.V] (boo (stmtK n.kind)):=by
 obtain⟨k,s,v,ks,js⟩:=n
 refine sx Tryz.func116 (by kernel_rfl) ?_
 unfold stmtK
 conv=>whnf
 rintro(_|_) h
 ·(conv=>whnf);exact fin_boo (by simp at*;omega)
 ·(conv=>whnf);exact fin_boo (by simp at*;omega)
end Go.Proofs.YtglndfgmlminpaaGreatDoor
namespace Go.Proofs.YtglndfgmlminpaaGreatDoor
open Go.RowKit
section
variable {l:List Nd}
end
end Go.Proofs.YtglndfgmlminpaaGreatDoor
namespace Go.Proofs.YtglndfgmlminpaaGreatDoor
open Go.RowKit
section
variable {l:List Nd}
end
end Go.Proofs.YtglndfgmlminpaaGreatDoor
namespace Go.Proofs.YtglndfgmlminpaaGreatDoor
open Go.RowKit
section
variable {l:List Nd}
end
end Go.Proofs.YtglndfgmlminpaaGreatDoor
namespace Go.Proofs.YtglndfgmlminpaaGreatDoor
section
variable {l:List Nd}
end
end Go.Proofs.YtglndfgmlminpaaGreatDoor
namespace Go.Proofs.YtglndfgmlminpaaGreatDoor
open Go.RowKit
end Go.Proofs.YtglndfgmlminpaaGreatDoor
namespace Go.Proofs.YtglndfgmlminpaaGreatDoor
open Go.RowKit
theorem textH0 (l:Bs):((textT ⟨6,l,0,0⟩).2==0)=wholeB l:=by
 rw[te_host]
 cases h:wholeB l<;>simp
theorem nlit {a:Bs} {d:Array UInt8} {b:Bool} (h:(a==d.toList)=b):(!((mk a).toList==(⟨d⟩:ByteArray).toList))= !b:=by rw[litE,h]
theorem x_rfields7 (s:Bs) (v:Int) (ks:List Bs) (js:List Int) (hn:NdOk ⟨7,s,v,ks,js⟩):DCalls Tryz.prog 71 [Nd.V ⟨7,s,v,ks,js⟩] (boo (fieldsB ⟨7,s,v,ks⟩ js.length)):=by
 have hl:(ks.map strD).length=ks.length:=List.length_map _
 have hj:(js.map intD).length=js.length:=List.length_map _
 by_cases hv:v=0
 rotate_left
 ·refine sx Tryz.func71 (by kernel_rfl) ?_
  repeat((conv=>whnf);first|refine known true rfl ?_|refine known false rfl ?_)
  conv=>whnf
  refine known true (by simpa using hv) ?_
  conv=>whnf
  exact fin_boo (by simp[fieldsB,hv])
 subst hv
 have e:fieldsB ⟨7,s,0,ks⟩ js.length=(decide (s=[])&&decide (ks.length=js.length)&&ascB ks):=by simp[fieldsB]
 rw[e]
 by_cases hs:s=[]
 rotate_left
 ·refine sx Tryz.func71 (by kernel_rfl) ?_
  repeat((conv=>whnf);first|refine known true rfl ?_|refine known false rfl ?_)
  conv=>whnf
  refine known true (nlit (b:=false) (by simpa using hs)) ?_
  try conv=>whnf
  exact fin_boo (by simp[hs])
 subst hs
 have hkn:=hn.keys
 have hkl:=hn.keyl
 dsimp only at hkn hkl
 refine sx Tryz.func71 (by kernel_rfl) ?_
 repeat((conv=>whnf);first|refine known true rfl ?_|refine known false rfl ?_)
 conv=>whnf
 refine known false (nlit (b:=true) rfl) ?_
 repeat((conv=>whnf);first|refine known true rfl ?_|refine known false rfl ?_)
 rw[←keysB_asc]
 conv=>whnf
 refine⟨[],Nat,fun k=>[(5,int k)],fun _=>[],fun k=>k≤ks.length∧keysF (prv ks k) (ks.drop k)=keysB ks,fun k=>ks.length - k,0,⟨Nat.zero_le _,rfl⟩,?_,?_⟩
 ·refine⟨rfl,?_,?_⟩<;>repeat' (first|exact trivial|exact rfl|refine and_rfl ?_|refine and_two ?_ ?_)
 rintro k ⟨hk1,hk⟩
 conv=>whnf
 rintro(_|_) h2
 ·have h2:ks.length≤k:=by simp at h2;omega
  rw[List.drop_eq_nil_of_le h2] at hk
  conv=>whnf
  rw[←hk]
  refine fin_boo ?_
  dsimp only
  rw[hl,hj,Bool.eq_iff_iff]
  simp[keysF]
  try omega
 have h2:k<ks.length:=by simp at h2;omega
 have hw:IntKind.i64.wrap (((k:Nat):Int)+1)=((k+1:Nat):Int):=wrap_succ (by omega)
 rw[keysF_at h2] at hk
 conv=>whnf
 refine⟨none,by kernel_rfl,?_⟩
 conv=>whnf
 refine⟨by omega,_,get_map strD h2,?_⟩
 conv=>whnf
 refine⟨_,x_rstr08 ks[k] (hkl _ (List.getElem_mem h2)),?_⟩
 conv=>whnf
 rintro(_|_) h3
 rotate_left
 ·have h3:contB ks[k]=false:=by simpa using h3
  rw[show keysB ks=false by rw[←hk,h3];rfl]
  conv=>whnf
  exact fin_boo (by simp)
 have h3:contB ks[k]=true:=by simpa using h3
 rw[h3,Bool.true_and] at hk
 cases k with
 |zero=>
  conv=>whnf
  refine known false rfl ?_
  conv=>whnf
  refine⟨1,⟨h2,hk⟩,by(try dsimp only);omega,?_⟩
  refine⟨rfl,?_,?_⟩<;>repeat' (first|exact trivial|exact rfl|refine and_rfl ?_|refine and_val hw ?_|refine and_two ?_ ?_)
 |succ k=>
  rw[show prv ks (k+1)=some ks[k] from List.getElem?_eq_getElem (by omega)] at hk
  have hgk:(ks.map strD)[((k:Nat):Int).toNat]?=some (strD ks[k]):=get_map strD (by omega)
  conv=>whnf
  refine known true (by simp<;>omega) ?_
  conv=>whnf
  refine⟨by omega,_,get_map strD h2,?_⟩
  conv=>whnf
  refine⟨(by(rw[i_pred (by omega)])<;>omega),_,(by rw[i_pred (by omega)];exact hgk),?_⟩
  conv=>whnf
  rintro(_|_) h4
  rotate_left
  ·have h4:leS ks[k+1] ks[k]=true:=h4
   rw[show keysB ks=false by rw[←hk];simp[h4]]
   conv=>whnf
   exact fin_boo (by simp)
  have h4:leS ks[k+1] ks[k]=false:=h4
  simp only[h4,Bool.not_false,Bool.true_and] at hk
  conv=>whnf
  refine⟨k+1+1,⟨h2,hk⟩,by(try dsimp only);omega,?_⟩
  refine⟨rfl,?_,?_⟩<;>repeat' (first|exact trivial|exact rfl|refine and_rfl ?_|refine and_val hw ?_|refine and_two ?_ ?_)
end Go.Proofs.YtglndfgmlminpaaGreatDoor
