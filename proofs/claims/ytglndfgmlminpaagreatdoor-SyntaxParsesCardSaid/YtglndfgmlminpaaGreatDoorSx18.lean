/- Texts joined by pack.py: XLx9 XLx10 XLx11 XLx12 -/
import Derived.Test.YtglndfgmlminpaaGreatDoorSx17
import Derived.Lib.ItoaMem
set_option maxHeartbeats 4000000
set_option maxRecDepth 100000
namespace Go.Proofs.YtglndfgmlminpaaGreatDoor
open Go.RowKit
theorem x_valid (n:Int):DCalls Tryz.prog 89 [int n] (boo (validB n)):=by
 refine sx Tryz.func89 (by kernel_rfl) ?_
 repeat' (first|exact fin_boo (by unfold validB;simp at*;omega)|((conv=>whnf);rintro(_|_) h))
theorem x_rvalid (n:Int):DCalls Tryz.prog 153 [int n] (boo (validB n)):=by
 refine sx Tryz.func153 (by kernel_rfl) ?_
 repeat' (first|exact fin_boo (by unfold validB;simp at*;omega)|((conv=>whnf);rintro(_|_) h))
def digs (d:Bs):Prop:=d≠[]∧∀c∈d,isDg c=true
def decB (d:Bs):Bool:= !(d.head? ==some 48&&d !=[48])
theorem dg_int {c:UInt8} (h:isDg c=true):48≤(c.toNat:Int)∧(c.toNat:Int)≤57:=by
 rw[isDg_int] at h;simpa using h
theorem digs_hd {d:Bs} (h:digs d):∃c r,d=c::r∧isDg c=true:=by
 match d,h with
 |c::r,h=>exact⟨c,r,rfl,h.2 c (by simp)⟩
theorem x_decimal (d:Bs) (h:digs d) (hl:d.length<9223372036854775807):DCalls Tryz.prog 129 [bstr d] (boo (decB d)):=by
 obtain⟨c,r,rfl,hc⟩:=digs_hd h
 have hci:=dg_int hc
 have h45:((c.toNat:Int)==45)=false:=beq_false_of_ne (by omega)
 refine sx Tryz.func129 (by kernel_rfl) ?_
 conv=>whnf
 refine known true (by rw[mk_size];simp) ?_
 conv=>whnf
 refine⟨by omega,_,(show(mk (c::r))[0]?=some c by rw[mk_get];rfl),?_⟩
 conv=>whnf
 refine known false h45 ?_
 conv=>whnf
 refine known false (show sEq (mk (c::r)) (mk [])=false by rw[sEq_mk];rfl) ?_
 conv=>whnf
 refine⟨by omega,_,(show(mk (c::r))[0]?=some c by rw[mk_get];rfl),?_⟩
 have hz:(c==48)=((c.toNat:Int)==48):=by rw[u8_eq];rfl
 conv=>whnf
 rintro(_|_) h1
 ·have hB:decB (c::r)=true:=by
   rw[h1] at hz
   have:c≠48:=by simpa using hz
   simp[decB,this]
  conv=>whnf
  refine⟨[],Nat,fun k=>[(29,int k)],fun _=>[],fun k=>k≤(c::r).length,fun k=>(c::r).length - k,0,Nat.zero_le _,?_,?_⟩
  ·refine⟨rfl,?_,?_⟩<;>repeat' (first|exact trivial|exact rfl|refine and_rfl ?_|refine and_two ?_ ?_)
  rintro k hk1
  conv=>whnf
  rintro(_|_) h2
  ·conv=>whnf
   exact fin_boo (by rw[hB])
  have h2:k<(c::r).length:=by simp only[mk_size] at h2;simp at h2⊢;omega
  have hdk:=dg_int (h.2 (c::r)[k] (List.getElem_mem h2))
  conv=>whnf
  refine⟨by omega,_,mk_at h2,?_⟩
  conv=>whnf
  refine known false (by simp only[decide_eq_false_iff_not];omega) ?_
  conv=>whnf
  refine⟨by omega,_,mk_at h2,?_⟩
  conv=>whnf
  refine known false (by simp only[decide_eq_false_iff_not];omega) ?_
  conv=>whnf
  refine⟨k+1,h2,by dsimp only;omega,?_⟩
  refine⟨rfl,?_,?_⟩<;>repeat' (first|exact trivial|exact rfl|refine and_rfl ?_|refine and_val (wrap_succ (by omega)) ?_|refine and_two ?_ ?_)
 have hc48:c=48:=by rw[h1] at hz;simpa using hz
 subst hc48
 conv=>whnf
 rintro(_|_) h3
 rotate_left
 ·have h3:(!sEq (mk (48::r)) (mk [48]))=true:=h3
  rw[sEq_mk] at h3
  conv=>whnf
  exact fin_boo (by simp at h3;simp[decB,h3])
 have h3:(!sEq (mk (48::r)) (mk [48]))=false:=h3
 rw[sEq_mk] at h3
 have hB:decB (48::r)=true:=by simp at h3;simp[decB,h3]
 generalize hcc:(48:UInt8)=c at*
 conv=>whnf
 refine⟨[],Nat,fun k=>[(29,int k)],fun _=>[],fun k=>k≤(c::r).length,fun k=>(c::r).length - k,0,Nat.zero_le _,?_,?_⟩
 ·refine⟨rfl,?_,?_⟩<;>repeat' (first|exact trivial|exact rfl|refine and_rfl ?_|refine and_two ?_ ?_)
 rintro k hk1
 conv=>whnf
 rintro(_|_) h2
 ·conv=>whnf
  exact fin_boo (by rw[hB])
 have h2:k<(c::r).length:=by simp only[mk_size] at h2;simp at h2⊢;omega
 have hdk:=dg_int (h.2 (c::r)[k] (List.getElem_mem h2))
 conv=>whnf
 refine⟨by omega,_,mk_at h2,?_⟩
 conv=>whnf
 refine known false (by simp only[decide_eq_false_iff_not];omega) ?_
 conv=>whnf
 refine⟨by omega,_,mk_at h2,?_⟩
 conv=>whnf
 refine known false (by simp only[decide_eq_false_iff_not];omega) ?_
 conv=>whnf
 refine⟨k+1,h2,by dsimp only;omega,?_⟩
 refine⟨rfl,?_,?_⟩<;>repeat' (first|exact trivial|exact rfl|refine and_rfl ?_|refine and_val (wrap_succ (by omega)) ?_|refine and_two ?_ ?_)
theorem x_form (d:Bs) (h:digs d) (hl:d.length<9223372036854775807):DCalls Tryz.prog 175 [bstr d] (boo (decB d)):=by
 obtain⟨c,r,rfl,hc⟩:=digs_hd h
 have hci:=dg_int hc
 have h45:((c.toNat:Int)==45)=false:=beq_false_of_ne (by omega)
 refine sx Tryz.func175 (by kernel_rfl) ?_
 conv=>whnf
 refine known true (by rw[mk_size];simp) ?_
 conv=>whnf
 refine⟨by omega,_,(show(mk (c::r))[0]?=some c by rw[mk_get];rfl),?_⟩
 conv=>whnf
 refine known false h45 ?_
 conv=>whnf
 refine known false (by rw[mk_size];exact beq_false_of_ne (by simp;omega)) ?_
 have hz:(c==48)=((c.toNat:Int)==48):=by rw[u8_eq];rfl
 conv=>whnf
 rintro(_|_) h1
 ·have hr:r=[]:=by simp[mk_size] at h1;exact List.eq_nil_of_length_eq_zero (by omega)
  have hB:decB (c::r)=true:=by subst hr;by_cases e:c=48<;>simp[decB,e]
  conv=>whnf
  refine⟨[],Nat,fun k=>[(39,int k)],fun _=>[],fun k=>k≤(c::r).length,fun k=>(c::r).length - k,0,Nat.zero_le _,?_,?_⟩
  ·refine⟨rfl,?_,?_⟩<;>repeat' (first|exact trivial|exact rfl|refine and_rfl ?_|refine and_two ?_ ?_)
  rintro k hk1
  conv=>whnf
  rintro(_|_) h2
  ·conv=>whnf
   exact fin_boo (by rw[hB])
  have h2:k<(c::r).length:=by simp only[mk_size] at h2;simp at h2⊢;omega
  have hdk:=dg_int (h.2 (c::r)[k] (List.getElem_mem h2))
  conv=>whnf
  refine⟨by omega,_,mk_at h2,?_⟩
  conv=>whnf
  refine known false (by simp only[decide_eq_false_iff_not];omega) ?_
  conv=>whnf
  refine⟨by omega,_,mk_at h2,?_⟩
  conv=>whnf
  refine known false (by simp only[decide_eq_false_iff_not];omega) ?_
  conv=>whnf
  refine⟨k+1,h2,by dsimp only;omega,?_⟩
  refine⟨rfl,?_,?_⟩<;>repeat' (first|exact trivial|exact rfl|refine and_rfl ?_|refine and_val (wrap_succ (by omega)) ?_|refine and_two ?_ ?_)
 have hr:r≠[]:=by intro e;subst e;simp[mk_size] at h1
 conv=>whnf
 refine⟨by omega,_,(show(mk (c::r))[0]?=some c by rw[mk_get];rfl),?_⟩
 conv=>whnf
 rintro(_|_) h3
 rotate_left
 ·rw[h3] at hz
  have h48:c=48:=by simpa using hz
  subst h48
  conv=>whnf
  exact fin_boo (by simp[decB,hr])
 have hB:decB (c::r)=true:=by
  rw[h3] at hz
  have:c≠48:=by simpa using hz
  simp[decB,this]
 conv=>whnf
 refine⟨[],Nat,fun k=>[(39,int k)],fun _=>[],fun k=>k≤(c::r).length,fun k=>(c::r).length - k,0,Nat.zero_le _,?_,?_⟩
 ·refine⟨rfl,?_,?_⟩<;>repeat' (first|exact trivial|exact rfl|refine and_rfl ?_|refine and_two ?_ ?_)
 rintro k hk1
 conv=>whnf
 rintro(_|_) h2
 ·conv=>whnf
  exact fin_boo (by rw[hB])
 have h2:k<(c::r).length:=by simp only[mk_size] at h2;simp at h2⊢;omega
 have hdk:=dg_int (h.2 (c::r)[k] (List.getElem_mem h2))
 conv=>whnf
 refine⟨by omega,_,mk_at h2,?_⟩
 conv=>whnf
 refine known false (by simp only[decide_eq_false_iff_not];omega) ?_
 conv=>whnf
 refine⟨by omega,_,mk_at h2,?_⟩
 conv=>whnf
 refine known false (by simp only[decide_eq_false_iff_not];omega) ?_
 conv=>whnf
 refine⟨k+1,h2,by dsimp only;omega,?_⟩
 refine⟨rfl,?_,?_⟩<;>repeat' (first|exact trivial|exact rfl|refine and_rfl ?_|refine and_val (wrap_succ (by omega)) ?_|refine and_two ?_ ?_)
end Go.Proofs.YtglndfgmlminpaaGreatDoor
namespace Go.Proofs.YtglndfgmlminpaaGreatDoor
open Go.RowKit
theorem dval_ge:∀(l:Bs) (n:Nat),n≤dval l n
 |[],n=>Nat.le_refl _
 |c::l,n=>by
  have:=dval_ge l (10*n+(c.toNat - 48))
  simp only[dval];omega
theorem parseUint_digs:∀(l:Bs) (n:Nat),(∀c∈l,isDg c=true)→n<18446744073709551616→Lib.parseUint10 n l=if dval l n<18446744073709551616 then .ok (dval l n) else .range
 |[],n,_,hn=>by rw[show dval [] n=n from rfl,if_pos hn];rfl
 |c::l,n,h,hn=>by
  have hc:=dg_int (h c (by simp))
  have hge:=dval_ge l (10*n+(c.toNat - 48))
  rw[show dval (c::l) n=dval l (10*n+(c.toNat - 48)) from rfl]
  simp only[Lib.parseUint10]
  rw[if_pos (by omega)]
  split
  ·rw[if_neg (by omega)]
  ·split
   ·rw[if_neg (by omega)]
   ·rw[Nat.mul_comm n 10]
    exact parseUint_digs l _ (fun c hc=>h c (by simp[hc])) (by omega)
theorem atoi_digs (d:Bs) (h:digs d):Lib.atoiAll d=if dval d 0<9223372036854775808 then .ok (dval d 0:Int) else .range:=by
 obtain⟨c,r,rfl,hc⟩:=digs_hd h
 have hci:=dg_int hc
 have h45:¬c.toNat=45:=by omega
 have h43:¬c.toNat=43:=by omega
 unfold Lib.atoiAll
 simp only[h45,h43,or_self,if_false]
 unfold Lib.parseMag
 rw[if_neg (by simp),parseUint_digs _ 0 h.2 (by omega)]
 by_cases hv:dval (c::r) 0<18446744073709551616
 ·rw[if_pos hv]
  by_cases hv2:dval (c::r) 0<9223372036854775808
  ·rw[if_pos hv2];simp[hv2]
  ·rw[if_neg hv2];simp;omega
 ·rw[if_neg hv,if_neg (by omega)]
theorem decB_pnum (d:Bs) (h:digs d):pnum d=if decB d=false then(0,1) else if dval d 0>1000000000000 then(0,2) else((dval d 0:Int),0):=by
 obtain⟨c,r,rfl,hc⟩:=digs_hd h
 have:(decB (c::r)=false)↔((c::r).length>1∧(c::r).head?=some 48):=by
  unfold decB
  simp
  constructor
  ·rintro⟨rfl,h⟩
   refine⟨?_,rfl⟩
   cases r with
   |nil=>simp at h
   |cons=>simp
  ·rintro⟨hr,rfl⟩
   refine⟨rfl,?_⟩
   cases r with
   |nil=>simp at hr
   |cons=>simp
 unfold pnum
 by_cases hd:decB (c::r)=false
 ·rw[if_pos hd,if_pos (this.1 hd)]
 ·rw[if_neg hd,if_neg (fun e=>hd (this.2 e))]
theorem DCalls.vals {P:Program} {f:FuncId} {us:List Value} {v:Value} (h:DCalls P f (us.map .cv) (.cv v)) {w:World} (hg:ginv w):Calls P f us.toArray w fun e w'=>e= .returned v∧Below w.heap.size w w':=by
 refine(h.2 w us hg ⟨by simp,fun i x hx=>?_⟩).mono ?_
 ·rw[List.getElem?_map,Option.map_eq_some_iff] at hx
  obtain⟨u,hu,rfl⟩:=hx
  rw[List.getD_eq_getElem?_getD,hu]
  exact .cv _
 ·rintro e w' ⟨v',rfl,h1,h2⟩
  cases h1
  exact⟨rfl,h2⟩
theorem ginv_below {w w':World} (h:ginv w) (hb:Below w.heap.size w w'):ginv w':=ginv_low h (fun _ hg=>ginv_lt h hg) hb.block
theorem atoi_ok (d:Bs) (h:digs d) (hl:d.length≤281474976710656) (hv:dval d 0<9223372036854775808) (w:World):
  Calls Tryz.prog 130 #[.string (mk d)] w fun e w'=>e= .returned (.tuple #[.int .i64 (dval d 0:Nat),.nilIface])∧Below w.heap.size w w':=by
 refine(Tryz.strconv_Atoi_ok (mk d) (by rw[mk_size];omega) (dval d 0:Nat) (by rw[show(mk d).data.toList=d from rfl,atoi_digs d h,if_pos hv]) w).mono ?_
 rintro e w' ⟨rfl,hw⟩
 refine⟨rfl,?_⟩
 rcases hw with rfl|⟨t,rfl⟩
 ·exact Below.refl _ _
 ·exact Lib.bytesWorld_below _ _ _
theorem atoi_range (d:Bs) (h:digs d) (hl:d.length≤281474976710656) (hv:¬dval d 0<9223372036854775808) (w:World) (hg:ginv w):
  Calls Tryz.prog 130 #[.string (mk d)] w fun e w'=>∃n t N,e= .returned (.tuple #[.int .i64 n,.iface t (.pointer (some ⟨N,0,none⟩))])∧Below w.heap.size w w':=by
 obtain⟨⟨ev,h1,h2⟩,_⟩:=hg
 refine(Tryz.strconv_Atoi_range (mk d) (by rw[mk_size];omega) (by rw[show(mk d).data.toList=d from rfl,atoi_digs d h,if_neg hv]) ev w h1 h2).mono ?_
 rintro e w' ⟨N,rfl,_,_,hb⟩
 exact⟨_,_,N,rfl,hb⟩
theorem parse_any (d:Bs) (h:digs d) (hl:d.length≤281474976710656) (w:World) (hg:ginv w):
  Calls Tryz.prog 86 #[.string (mk d)] w fun e w'=>e= .returned (.tuple #[.int .i64 (pnum d).1,.int .i64 (pnum d).2])∧Below w.heap.size w w':=by
 have c1:=(DCalls.vals (us:=[.string (mk d)]) (x_decimal d h (by omega)) hg)
 have hp:=decB_pnum d h
 cases hd:decB d with
 |false=>
  rw[hd] at c1
  rw[if_pos hd] at hp
  rw[hp]
  clear hp
  go_enter Tryz.func86,Tryz.ntmps86
  go_wp2_with (go_at_call 129;refine c1.mono ?_;rintro e W1 ⟨rfl,hb1⟩)
  go_ret2
  exact⟨rfl,hb1⟩
 |true=>
  rw[hd] at c1
  rw[if_neg (by rw[hd];simp)] at hp
  rw[hp]
  clear hp
  by_cases hv:dval d 0<9223372036854775808
  ·have c2:=atoi_ok d h hl hv
   have c3:∀W,ginv W→_:=fun W hW=>DCalls.vals (us:=[.int .i64 (dval d 0:Nat)]) (x_valid (dval d 0:Nat)) (w:=W) hW
   have hvb:validB (dval d 0:Nat)=decide (¬dval d 0>1000000000000):=by unfold validB;rw[Bool.eq_iff_iff];simp;omega
   rw[hvb] at c3
   by_cases hm:dval d 0>1000000000000
   ·rw[if_pos hm]
    rw[show decide (¬dval d 0>1000000000000)=false by simpa using hm] at c3
    generalize dval d 0=v at*
    go_enter Tryz.func86,Tryz.ntmps86
    go_wp2_with (first
     |go_at_call 129;refine c1.mono ?_;rintro e W1 ⟨rfl,hb1⟩
     |go_at_call 130;refine(c2 _).mono ?_;rintro e W2 ⟨rfl,hb2⟩
     |go_at_call 89;refine(c3 _ (ginv_below (ginv_below hg (by assumption)) (by assumption))).mono ?_;rintro e W3 ⟨rfl,hb3⟩)
    go_ret2
    exact⟨rfl,hb1.trans ((hb2.trans (hb3.mono hb2.size)).mono hb1.size)⟩
   ·rw[if_neg hm]
    rw[show decide (¬dval d 0>1000000000000)=true by simpa using hm] at c3
    generalize dval d 0=v at*
    go_enter Tryz.func86,Tryz.ntmps86
    go_wp2_with (first
     |go_at_call 129;refine c1.mono ?_;rintro e W1 ⟨rfl,hb1⟩
     |go_at_call 130;refine(c2 _).mono ?_;rintro e W2 ⟨rfl,hb2⟩
     |go_at_call 89;refine(c3 _ (ginv_below (ginv_below hg (by assumption)) (by assumption))).mono ?_;rintro e W3 ⟨rfl,hb3⟩)
    go_ret2
    exact⟨rfl,hb1.trans ((hb2.trans (hb3.mono hb2.size)).mono hb1.size)⟩
  ·have c2:=atoi_range d h hl hv
   rw[if_pos (by omega)]
   generalize dval d 0=v at*
   go_enter Tryz.func86,Tryz.ntmps86
   go_wp2_with (first
    |go_at_call 129;refine c1.mono ?_;rintro e W1 ⟨rfl,hb1⟩
    |go_at_call 130;refine(c2 _ (ginv_below hg (by assumption))).mono ?_;rintro e W2 ⟨n,t,N,rfl,hb2⟩)
   go_ret2
   exact⟨rfl,hb1.trans (hb2.mono hb1.size)⟩
theorem x_parse (d:Bs) (h:digs d) (hl:d.length≤281474976710656):DCalls Tryz.prog 86 [bstr d] (.tu [int (pnum d).1,int (pnum d).2]):=
 dcalls_val Tryz.func86 (by kernel_rfl) (by kernel_rfl) rfl rfl fun w hg=>parse_any d h hl w hg
theorem x_itoa (n:Int) (h0: -9223372036854775808≤n) (h1:n≤9223372036854775807):DCalls Tryz.prog 131 [int n] (bstr (Lib.itoa n)):=
 dcalls_val Tryz.func131 (by kernel_rfl) (by kernel_rfl) rfl rfl fun w hg=>(Tryz.strconv_Itoa n h0 h1 w hg.2.1).mono fun e w' ⟨h1,k,os,h2⟩=>⟨h1,by
  rw[h2]
  refine⟨rfl,rfl,rfl,by simp[Sort.grow],fun i hi=>?_⟩
  show((w.drewN k).heap++os)[i]?=_
  rw[Array.getElem?_append_left (by show i<w.heap.size;omega)]
  rfl⟩
theorem x_format (n:Int) (h0: -9223372036854775808≤n) (h1:n≤9223372036854775807):DCalls Tryz.prog 90 [int n] (bstr (Lib.itoa n)):=by
 refine sx Tryz.func90 (by kernel_rfl) ?_
 conv=>whnf
 refine⟨_,x_itoa n h0 h1,?_⟩
 rfl
end Go.Proofs.YtglndfgmlminpaaGreatDoor
namespace Go.Proofs.YtglndfgmlminpaaGreatDoor
open Go.RowKit
theorem digs_at {d:Bs} (h:digs d) {k:Nat} (hk:k<d.length):48≤(d[k].toNat:Int)∧(d[k].toNat:Int)≤57:=dg_int (h.2 d[k] (List.getElem_mem hk))
theorem x_rparse (d:Bs) (h:digs d) (hl:d.length≤281474976710656):DCalls Tryz.prog 141 [bstr d] (.tu [int (pnum d).1,int (pnum d).2]):=by
 have hp:=decB_pnum d h
 have h0:0<d.length:=by have:=h.1;cases d<;>simp at*
 have hd0:=digs_at h h0
 refine sx Tryz.func141 (by kernel_rfl) ?_
 conv=>whnf
 refine known true (by rw[mk_size];simp;omega) ?_
 conv=>whnf
 refine⟨by omega,_,mk_at h0,?_⟩
 conv=>whnf
 refine⟨_,x_form d h (by omega),?_⟩
 conv=>whnf
 rintro(_|_) h1
 rotate_left
 ·have h1:decB d=false:=by simpa using h1
  rw[if_pos h1] at hp
  rw[hp]
  conv=>whnf
 have h1:decB d=true:=by simpa using h1
 rw[if_neg (by rw[h1];simp)] at hp
 conv=>whnf
 refine⟨[],Nat×Nat,fun⟨k,v⟩=>[(20,int k),(5,int v)],fun _=>[],fun⟨k,v⟩=>k≤d.length∧v≤1000000000000∧dval (d.drop k) v=dval d 0,fun x=>d.length - x.1,(0,0),⟨Nat.zero_le _,by omega,rfl⟩,?_,?_⟩
 ·refine⟨rfl,?_,?_⟩<;>repeat' (first|exact trivial|exact rfl|refine and_rfl ?_|refine and_two ?_ ?_)
 rintro⟨k,v⟩ ⟨hk1,hv1,hk⟩
 conv=>whnf
 rintro(_|_) h2
 ·simp[mk_size] at h2
  rw[List.drop_eq_nil_of_le h2] at hk
  have hv:dval d 0=v:=hk.symm
  rw[if_neg (by omega),hv] at hp
  rw[hp]
  conv=>whnf
  refine known false (beq_false_of_ne (by omega)) ?_
  conv=>whnf
 have h2:k<d.length:=by simp only[mk_size] at h2;simp at h2⊢;omega
 have hdk:=digs_at h h2
 rw[drop_cons h2] at hk
 simp only[dval] at hk
 conv=>whnf
 refine⟨by omega,_,mk_at h2,?_⟩
 conv=>whnf
 refine known false (beq_false_of_ne (by omega)) ?_
 conv=>whnf
 refine⟨by omega,_,mk_at h2,?_⟩
 have hw:IntKind.i64.wrap (IntKind.i64.wrap (10*(v:Int))+IntKind.i64.wrap (IntKind.u8.wrap ((d[k].toNat:Int) - 48)))=((10*v+(d[k].toNat - 48):Nat):Int):=by
  rw[IntWalk.u8_in _ (by omega),IntWalk.i64_in (10*(v:Int)) (by omega),IntWalk.i64_in ((d[k].toNat:Int) - 48) (by omega),IntWalk.i64_in _ (by omega)];omega
 conv=>whnf
 rw[hw]
 have hge:=dval_ge (d.drop (k+1)) (10*v+(d[k].toNat - 48))
 rintro(_|_) h3
 rotate_left
 ·simp at h3
  rw[if_pos (by omega)] at hp
  rw[hp]
  conv=>whnf
 simp at h3
 conv=>whnf
 refine⟨(k+1,10*v+(d[k].toNat - 48)),⟨h2,by omega,hk⟩,by dsimp only;omega,?_⟩
 refine⟨rfl,?_,?_⟩<;>repeat' (first|exact trivial|exact rfl|refine and_rfl ?_|refine and_val (wrap_succ (by omega)) ?_|refine and_two ?_ ?_)
theorem decDigits_lt {u:Nat} (h:u<10):Lib.decDigits u=[UInt8.ofNat (48+u)]:=by rw[Lib.decDigits,dif_pos h]
theorem decDigits_ge {u:Nat} (h:10≤u):Lib.decDigits u=Lib.decDigits (u / 10)++[UInt8.ofNat (48+u % 10)]:=by rw[Lib.decDigits,dif_neg (by omega)]
theorem decDigits_len:∀(f u:Nat),u<10 ^ (f+1)→(Lib.decDigits u).length≤f+1
 |0,u,h=>by rw[decDigits_lt (by simpa using h)];simp
 |f+1,u,h=>by
  rcases Nat.lt_or_ge u 10 with h1|h1
  ·rw[decDigits_lt h1];simp
  ·rw[decDigits_ge h1]
   have:=decDigits_len f (u / 10) (by rw[Nat.pow_succ] at h;omega)
   simp;omega
def nd:Bs:=[48,49,50,51,52,53,54,55,56,57]
theorem nd_at (r:Nat) (h:r<10):(mk nd).extract ((r:Nat):Int).toNat ((r+1:Nat):Int).toNat=mk [UInt8.ofNat (48+r)]:=by
 rw[mk_slice1 (show r<nd.length from h)]
 have:∀n:Fin 10,nd[n.val]'n.isLt=UInt8.ofNat (48+n.val):=by decide
 exact congrArg (fun x=>mk [x]) (this ⟨r,h⟩)
theorem x_rformat (n:Nat) (h1:n≤1000000000000):DCalls Tryz.prog 154 [int n] (bstr (Lib.itoa n)):=by
 rw[Lib.itoa_nonneg]
 refine sx Tryz.func154 (by kernel_rfl) ?_
 conv=>whnf
 refine⟨[],Nat×Bs,fun⟨u,acc⟩=>[(5,int u),(4,bstr acc)],fun _=>[],fun⟨u,acc⟩=>u≤1000000000000∧((acc=[]∧u=n)∨(acc≠[]∧(if u=0 then acc else Lib.decDigits u++acc)=Lib.decDigits n)),fun x=>x.1+(if x.2=[] then 1 else 0),(n,[]),⟨h1,.inl ⟨rfl,rfl⟩⟩,?_,?_⟩
 ·refine⟨rfl,?_,?_⟩<;>repeat' (first|exact trivial|exact rfl|refine and_rfl ?_|refine and_two ?_ ?_)
 rintro⟨u,acc⟩ ⟨hu,hI⟩
 have hlen:acc.length≤13:=by
  have:=decDigits_len 12 n (by omega)
  rcases hI with⟨rfl,_⟩|⟨_,h⟩
  ·simp
  ·rw[←h] at this
   split at this
   ·exact this
   ·simp at this;omega
 have body:∀r:Nat,r=u % 10→(u≠0∨acc=[])→(u / 10≤1000000000000∧((([UInt8.ofNat (48+r)]++acc)=[]∧u / 10=n)∨(([UInt8.ofNat (48+r)]++acc)≠[]∧(if u / 10=0 then([UInt8.ofNat (48+r)]++acc) else Lib.decDigits (u / 10)++([UInt8.ofNat (48+r)]++acc))=Lib.decDigits n))):=by
  rintro r rfl hne
  refine⟨by omega,.inr ⟨by simp,?_⟩⟩
  rcases Nat.lt_or_ge u 10 with h|h
  ·rw[if_pos (by omega),Nat.mod_eq_of_lt h]
   rcases hI with⟨rfl,rfl⟩|⟨h2,h3⟩
   ·rw[decDigits_lt h];rfl
   ·by_cases h0:u=0
    ·exact absurd (hne.resolve_left (by omega)) h2
    ·rw[if_neg h0,decDigits_lt h] at h3;exact h3
  ·rw[if_neg (by omega)]
   rcases hI with⟨rfl,rfl⟩|⟨h2,h3⟩
   ·rw[decDigits_ge h];simp
   ·rw[if_neg (by omega),decDigits_ge h] at h3
    rw[←h3];simp
 conv=>whnf
 rintro(_|_) h2
 ·have hu0:u=0:=by simpa using h2
  conv=>whnf
  rintro(_|_) h3
  ·have h3:=sEq_mk' h3
   have h3:acc≠[]:=by simpa using h3
   rcases hI with⟨h,_⟩|⟨_,h⟩
   ·exact absurd h h3
   rw[if_pos hu0] at h
   conv=>whnf
   refine known false (by simp) ?_
   rw[h]
   conv=>whnf
  have h3:=sEq_mk' h3
  have h3:acc=[]:=by simpa using h3
  have body:=body _ rfl (.inr h3)
  conv=>whnf
  refine⟨by decide,?_⟩
  conv=>whnf
  rw[show((u:Nat):Int).tmod 10=((u % 10:Nat):Int) from rfl]
  refine known false (by simp;omega) ?_
  conv=>whnf
  rw[wrap_succ (by omega)]
  refine⟨by omega,by omega,(show((u % 10+1:Nat):Int)≤((10:Nat):Int) by omega),?_⟩
  rw[show(⟨#[48,49,50,51,52,53,54,55,56,57]⟩:ByteArray)=mk nd from rfl,nd_at (u % 10) (by omega)]
  conv=>whnf
  rw[mk_app]
  refine⟨by rw[mk_size,mk_size];simp;omega,?_⟩
  conv=>whnf
  refine⟨by decide,?_⟩
  have e1:((u:Nat):Int).tdiv 10=((u / 10:Nat):Int):=rfl
  conv=>whnf
  refine⟨(u / 10,[UInt8.ofNat (48+u % 10)]++acc),body,by dsimp only;split<;>simp_all<;>omega,?_⟩
  refine⟨rfl,?_,?_⟩<;>repeat' (first|exact trivial|exact rfl|refine and_rfl ?_|refine and_val e1 ?_|refine and_val (by rw[e1,IntWalk.i64_in _ (by omega)]) ?_|refine and_two ?_ ?_)
 ·have hu0:u≠0:=by simpa using h2
  have body:=body _ rfl (.inl hu0)
  conv=>whnf
  refine⟨by decide,?_⟩
  conv=>whnf
  rw[show((u:Nat):Int).tmod 10=((u % 10:Nat):Int) from rfl]
  refine known false (by simp;omega) ?_
  conv=>whnf
  rw[wrap_succ (by omega)]
  refine⟨by omega,by omega,(show((u % 10+1:Nat):Int)≤((10:Nat):Int) by omega),?_⟩
  rw[show(⟨#[48,49,50,51,52,53,54,55,56,57]⟩:ByteArray)=mk nd from rfl,nd_at (u % 10) (by omega)]
  conv=>whnf
  rw[mk_app]
  refine⟨by rw[mk_size,mk_size];simp;omega,?_⟩
  conv=>whnf
  refine⟨by decide,?_⟩
  have e1:((u:Nat):Int).tdiv 10=((u / 10:Nat):Int):=rfl
  conv=>whnf
  refine⟨(u / 10,[UInt8.ofNat (48+u % 10)]++acc),body,by dsimp only;split<;>simp_all<;>omega,?_⟩
  refine⟨rfl,?_,?_⟩<;>repeat' (first|exact trivial|exact rfl|refine and_rfl ?_|refine and_val e1 ?_|refine and_val (by rw[e1,IntWalk.i64_in _ (by omega)]) ?_|refine and_two ?_ ?_)
def digW (l:Bs):Bs:=l.take (digL l)
theorem digL_le:∀l:Bs,digL l≤l.length
 |[]=>Nat.le_refl _
 |c::l=>by
  have:=digL_le l
  simp only[digL,List.length_cons];split<;>omega
theorem digL_all:∀(l:Bs),∀c∈l.take (digL l),isDg c=true
 |[],c,h=>by simp at h
 |d::l,c,h=>by
  simp only[digL] at h
  split at h
  ·rw[List.take_succ_cons] at h
   rcases List.mem_cons.1 h with rfl|h
   ·assumption
   ·exact digL_all l c h
  ·simp at h
theorem digs_take {c:UInt8} {l:Bs} (h:isDg c=true):digs ((c::l).take (digL (c::l))):=by
 refine⟨?_,digL_all _⟩
 simp only[digL,h,if_true,List.take_succ_cons];simp
abbrev numV (n:Nat) (d:Bs):V:=if decB d=false then .tu [int 0,int 0,int 1] else .tu [int (pnum d).1,int (n+d.length:Nat),int (pnum d).2]
theorem x_number (l:Bs) (n:Nat) (hn:n<l.length) (hd:isDg l[n]=true) (hl:l.length≤281474976710656):DCalls Tryz.prog 99 [bstr l,int n] (numV n (digW (l.drop n))):=by
 have hdl:=digL_le (l.drop n)
 have hdig:digs (digW (l.drop n)):=by unfold digW;rw[drop_cons hn];exact digs_take hd
 have hlen:(digW (l.drop n)).length=digL (l.drop n):=by unfold digW;rw[List.length_take];omega
 rw[List.length_drop] at hdl
 refine sx Tryz.func99 (by kernel_rfl) ?_
 conv=>whnf
 refine⟨[],Nat,fun k=>[(7,int (n+k:Nat))],fun _=>[],fun k=>n+k≤l.length∧k+digL (l.drop (n+k))=digL (l.drop n),fun k=>l.length - k,0,⟨by omega,by simp⟩,?_,?_⟩
 ·refine⟨rfl,?_,?_⟩<;>repeat' (first|exact trivial|exact rfl|refine and_rfl ?_|refine and_two ?_ ?_)
 rintro k ⟨hk1,hk⟩
 have stop:digL (l.drop (n+k))=0→k=digL (l.drop n):=fun h=>by omega
 conv=>whnf
 rintro(_|_) h2
 ·have h2:l.length≤n+k:=by simp only[mk_size] at h2;simp at h2;omega
  have hlast:k=digL (l.drop n):=stop (by rw[List.drop_eq_nil_of_le h2];rfl)
  have hmid:(mk l).extract ((n:Nat):Int).toNat ((n+k:Nat):Int).toNat=mk (digW (l.drop n)):=by
   rw[Int.toNat_natCast,Int.toNat_natCast,mk_ext,List.drop_take,show n+k - n=k by omega,hlast];rfl
  have hdB:decB (digW (l.drop n))= !((l[n].toNat:Int)==48&&decide (k>1)):=by
   have hz:(l[n]==48)=((l[n].toNat:Int)==48):=by rw[u8_eq];rfl
   have hw:digW (l.drop n)=l[n]::digW (l.drop (n+1)):=by unfold digW;rw[drop_cons hn];simp only[digL,hd,if_true,List.take_succ_cons]
   have hk2:(digW (l.drop n)).length=k:=by rw[hlen,hlast]
   rw[←hz]
   generalize digW (l.drop n)=dd at*
   generalize digW (l.drop (n+1))=ee at*
   subst hw
   unfold decB
   cases ee with
   |nil=>
    simp at hk2;subst hk2
    by_cases h48:l[n]=48<;>simp[h48]
   |cons a b=>
    simp at hk2
    have:1<k:=by omega
    simp[this]
  conv=>whnf
  refine⟨by omega,_,mk_at hn,?_⟩
  conv=>whnf
  rintro(_|_) h4
  ·rw[h4] at hdB
   simp at hdB
   conv=>whnf
   refine⟨by omega,by omega,by rw[mk_size];omega,?_⟩
   rw[hmid]
   conv=>whnf
   refine⟨_,x_rparse _ hdig (by omega),?_⟩
   conv=>whnf
   unfold numV
   rw[if_neg (by rw[hdB];simp),hlen,←hlast]
  conv=>whnf
  rw[wrap_succ (by omega)]
  rintro(_|_) h5
  ·rw[h4,show decide (k>1)=false by simp at h5⊢;omega] at hdB
   simp at hdB
   conv=>whnf
   refine⟨by omega,by omega,by rw[mk_size];omega,?_⟩
   rw[hmid]
   conv=>whnf
   refine⟨_,x_rparse _ hdig (by omega),?_⟩
   conv=>whnf
   unfold numV
   rw[if_neg (by rw[hdB];simp),hlen,←hlast]
  rw[h4,show decide (k>1)=true by simp at h5⊢;omega] at hdB
  simp at hdB
  conv=>whnf
  unfold numV
  rw[if_pos hdB]
 have h2:n+k<l.length:=by simp only[mk_size] at h2;simp at h2;omega
 have hdk:digL (l.drop (n+k))=if isDg l[n+k] then digL (l.drop (n+k+1))+1 else 0:=by rw[drop_cons h2];rfl
 conv=>whnf
 refine⟨by omega,_,mk_at h2,?_⟩
 conv=>whnf
 refine⟨_,x_digit l[n+k],?_⟩
 conv=>whnf
 rintro(_|_) h3
 ·rw[h3] at hdk
  have hlast:k=digL (l.drop n):=stop hdk
  have hmid:(mk l).extract ((n:Nat):Int).toNat ((n+k:Nat):Int).toNat=mk (digW (l.drop n)):=by
   rw[Int.toNat_natCast,Int.toNat_natCast,mk_ext,List.drop_take,show n+k - n=k by omega,hlast];rfl
  have hdB:decB (digW (l.drop n))= !((l[n].toNat:Int)==48&&decide (k>1)):=by
   have hz:(l[n]==48)=((l[n].toNat:Int)==48):=by rw[u8_eq];rfl
   have hw:digW (l.drop n)=l[n]::digW (l.drop (n+1)):=by unfold digW;rw[drop_cons hn];simp only[digL,hd,if_true,List.take_succ_cons]
   have hk2:(digW (l.drop n)).length=k:=by rw[hlen,hlast]
   rw[←hz]
   generalize digW (l.drop n)=dd at*
   generalize digW (l.drop (n+1))=ee at*
   subst hw
   unfold decB
   cases ee with
   |nil=>
    simp at hk2;subst hk2
    by_cases h48:l[n]=48<;>simp[h48]
   |cons a b=>
    simp at hk2
    have:1<k:=by omega
    simp[this]
  conv=>whnf
  refine⟨by omega,_,mk_at hn,?_⟩
  conv=>whnf
  rintro(_|_) h4
  ·rw[h4] at hdB
   simp at hdB
   conv=>whnf
   refine⟨by omega,by omega,by rw[mk_size];omega,?_⟩
   rw[hmid]
   conv=>whnf
   refine⟨_,x_rparse _ hdig (by omega),?_⟩
   conv=>whnf
   unfold numV
   rw[if_neg (by rw[hdB];simp),hlen,←hlast]
  conv=>whnf
  rw[wrap_succ (by omega)]
  rintro(_|_) h5
  ·rw[h4,show decide (k>1)=false by simp at h5⊢;omega] at hdB
   simp at hdB
   conv=>whnf
   refine⟨by omega,by omega,by rw[mk_size];omega,?_⟩
   rw[hmid]
   conv=>whnf
   refine⟨_,x_rparse _ hdig (by omega),?_⟩
   conv=>whnf
   unfold numV
   rw[if_neg (by rw[hdB];simp),hlen,←hlast]
  rw[h4,show decide (k>1)=true by simp at h5⊢;omega] at hdB
  simp at hdB
  conv=>whnf
  unfold numV
  rw[if_pos hdB]
 rw[h3] at hdk
 simp at hdk
 conv=>whnf
 refine⟨k+1,⟨by omega,by rw[show n+(k+1)=n+k+1 by omega];omega⟩,by dsimp only;omega,?_⟩
 refine⟨rfl,?_,?_⟩<;>repeat' (first|exact trivial|exact rfl|refine and_rfl ?_|refine and_val (wrap_succ (k:=n+k) (by omega)) ?_|refine and_two ?_ ?_)
end Go.Proofs.YtglndfgmlminpaaGreatDoor
namespace Go.Proofs.YtglndfgmlminpaaGreatDoor
open Go.RowKit
theorem cls_qt (c:UInt8):(cls c==4)=(c==34):=by
 have:∀n:Fin 256,(cls (UInt8.ofNat n.val)==4)=(UInt8.ofNat n.val==34):=by decide+kernel
 have:=this ⟨c.toNat,c.toNat_lt⟩
 simpa using this
theorem cls_at (c:UInt8):(cls c==5)=(c==64):=by
 have:∀n:Fin 256,(cls (UInt8.ofNat n.val)==5)=(UInt8.ofNat n.val==64):=by decide+kernel
 have:=this ⟨c.toNat,c.toNat_lt⟩
 simpa using this
abbrev tkV (p:Tok×Nat×Int):V:= .tu [p.1.V,int p.2.1,int p.2.2]
theorem tok1_hd {c:UInt8} {r:Bs} (h:isHd c=true):tok1 (c::r)=if runL (c::r)>24 then(noTok,0,3) else if kwL ((c::r).take (runL (c::r))) then(⟨2,(c::r).take (runL (c::r)),0,0⟩,runL (c::r),0) else(⟨1,(c::r).take (runL (c::r)),0,0⟩,runL (c::r),0):=by
 unfold tok1;simp only[h,if_true]
theorem tok1_dg {c:UInt8} {r:Bs} (h1:isHd c=false) (h:isDg c=true):tok1 (c::r)=if(pnum ((c::r).take (digL (c::r)))).2=0 then(⟨3,[],(pnum ((c::r).take (digL (c::r)))).1,0⟩,digL (c::r),0) else(noTok,0,(pnum ((c::r).take (digL (c::r)))).2):=by
 unfold tok1;simp only[h1,h,if_true,Bool.false_eq_true,if_false]
theorem tok1_qt {r:Bs}:tok1 (34::r)=if(txt r 1 []).2.2=0 then(⟨4,(txt r 1 []).1,0,0⟩,(txt r 1 []).2.1,0) else(noTok,(txt r 1 []).2.1,(txt r 1 []).2.2):=by
 unfold tok1;rfl
theorem tok1_at {r:Bs}:tok1 (64::r)=if runL r=0 then(noTok,0,1) else if runL r>24 then(noTok,0,3) else(⟨6,r.take (runL r),0,0⟩,runL r+1,0):=by
 unfold tok1;rfl
theorem tok1_sy {c:UInt8} {r:Bs} (h1:isHd c=false) (h2:isDg c=false) (h3:(c==34)=false) (h4:(c==64)=false):tok1 (c::r)=if 2≤(c::r).length∧symB ((c::r).take 2) then(⟨5,(c::r).take 2,0,0⟩,2,0)
  else if symB ((c::r).take 1) then(⟨5,(c::r).take 1,0,0⟩,1,0) else(noTok,0,1):=by
 unfold tok1;simp only[h1,h2,h3,h4,Bool.false_eq_true,if_false]
theorem runT_le:∀l:Bs,runT l≤l.length
 |[]=>Nat.le_refl _
 |c::l=>by have:=runT_le l;simp only[runT,List.length_cons];split<;>omega
theorem runL_le:∀l:Bs,runL l≤l.length
 |[]=>Nat.le_refl _
 |c::l=>by have:=runT_le l;simp only[runL,List.length_cons];split<;>omega
theorem mk_toI (l:Bs) (k:Nat):(mk l).extract (0:Int).toNat ((k:Nat):Int).toNat=mk (l.take k):=by
 rw[Int.toNat_natCast];exact mk_to l k
theorem x_keywordL (l:Bs):DCalls Tryz.prog 84 [bstr l] (boo (kwL l)):=x_keyword (mk l)
theorem x_token (c:UInt8) (r:Bs) (hl:(c::r).length≤281474976710656):DCalls Tryz.prog 51 [bstr (c::r)] (tkV (tok1 (c::r))):=by
 refine sx Tryz.func51 (by kernel_rfl) ?_
 conv=>whnf
 refine⟨by omega,_,(show(mk (c::r))[0]?=some c by rw[mk_get];rfl),?_⟩
 conv=>whnf
 refine⟨_,x_ofw c,?_⟩
 conv=>whnf
 rw[cls_hd]
 rintro(_|_) h1
 rotate_left
 ·have hrl:=runL_le (c::r)
  rw[tok1_hd h1]
  generalize hL:c::r=l at*
  conv=>whnf
  refine⟨_,x_run l (by omega),?_⟩
  conv=>whnf
  rintro(_|_) h2
  rotate_left
  ·simp at h2
   rw[if_pos (by omega)]
   (conv=>whnf)<;>rfl
  simp at h2
  rw[if_neg (by omega)]
  conv=>whnf
  refine⟨by omega,by omega,by rw[mk_size];omega,?_⟩
  rw[mk_toI]
  conv=>whnf
  refine⟨_,x_keywordL _,?_⟩
  conv=>whnf
  rintro(_|_) h3
  ·rw[if_neg (by rw[h3];simp)]
   conv=>whnf
   refine⟨by omega,by omega,by rw[mk_size];omega,?_⟩
   rw[mk_toI]
   (conv=>whnf)<;>rfl
  ·rw[if_pos h3]
   conv=>whnf
   refine⟨by omega,by omega,by rw[mk_size];omega,?_⟩
   rw[mk_toI]
   (conv=>whnf)<;>rfl
 conv=>whnf
 rw[cls_dg]
 rintro(_|_) h2
 rotate_left
 ·have hdl:=digL_le (c::r)
  have hdig:=digs_take (l:=r) h2
  rw[tok1_dg h1 h2]
  generalize hL:c::r=l at*
  conv=>whnf
  refine⟨_,x_digits l (by omega),?_⟩
  conv=>whnf
  refine⟨by omega,by omega,by rw[mk_size];omega,?_⟩
  rw[mk_toI]
  conv=>whnf
  refine⟨_,x_parse _ hdig (by rw[List.length_take];omega),?_⟩
  conv=>whnf
  rintro(_|_) h3
  ·simp at h3
   rw[if_pos h3]
   (conv=>whnf)<;>rfl
  ·simp at h3
   rw[if_neg h3]
   (conv=>whnf)<;>rfl
 conv=>whnf
 rw[cls_qt]
 rintro(_|_) h3
 rotate_left
 ·have h3':c=34:=by simpa using h3
  subst h3'
  rw[tok1_qt]
  conv=>whnf
  refine⟨_,x_text (34::r) (by simp) (by omega),?_⟩
  rw[show txt (List.drop 1 (34::r)) 1 []=txt r 1 [] from rfl]
  conv=>whnf
  rintro(_|_) h4
  ·simp at h4
   rw[if_pos h4]
   (conv=>whnf)<;>rfl
  ·simp at h4
   rw[if_neg h4]
   (conv=>whnf)<;>rfl
 conv=>whnf
 rw[cls_at]
 rintro(_|_) h4
 rotate_left
 ·have h4':c=64:=by simpa using h4
  subst h4'
  rw[tok1_at]
  have hrl:=runL_le r
  have hl':(64::r).length=r.length+1:=rfl
  conv=>whnf
  refine⟨by omega,by rw[mk_size];omega,by omega,?_⟩
  rw[show(mk (64::r)).extract (1:Int).toNat (((mk (64::r)).size:Nat):Int).toNat=mk r from mk_fromI (64::r) 1]
  conv=>whnf
  refine⟨_,x_run r (by omega),?_⟩
  conv=>whnf
  rintro(_|_) h5
  rotate_left
  ·simp at h5
   rw[if_pos (by omega)]
   (conv=>whnf)<;>rfl
  simp at h5
  rw[if_neg (by omega)]
  conv=>whnf
  rintro(_|_) h6
  rotate_left
  ·simp at h6
   rw[if_pos (by omega)]
   (conv=>whnf)<;>rfl
  simp at h6
  rw[if_neg (by omega)]
  have hw:IntKind.i64.wrap ((runL r:Int)+1)=((runL r+1:Nat):Int):=wrap_succ (by omega)
  conv=>whnf
  rw[hw]
  refine⟨by omega,by omega,by rw[mk_size];omega,?_⟩
  have e:(mk (64::r)).extract (1:Int).toNat ((runL r+1:Nat):Int).toNat=mk (r.take (runL r)):=by
   rw[Int.toNat_natCast,mk_ext];rfl
  rw[e]
  conv=>whnf
  rw[hw]
 rw[tok1_sy h1 h2 h3 h4]
 have hpos:1≤(c::r).length:=by simp
 generalize hL:c::r=l at*
 obtain⟨n0,e0,a1,a2,a3⟩:∃n0:Nat,(if(((mk l).size:Nat):Int)<2 then(((mk l).size:Nat):Int) else 2)=((n0:Nat):Int)∧n0≤l.length∧(l.length<2→n0=1)∧(2≤l.length→n0=2):=by
  rw[mk_size]
  by_cases h:l.length<2
  ·exact⟨l.length,by rw[if_pos (by omega)],by omega,by omega,by omega⟩
  ·exact⟨2,by rw[if_neg (by omega)];rfl,by omega,by omega,by omega⟩
 conv=>whnf
 rw[e0]
 refine⟨[],Nat,fun n=>[(14,int n)],fun _=>[],fun n=>n≤l.length∧n≤2∧(if 2≤l.length∧symB (l.take 2) then((⟨5,l.take 2,0,0⟩:Tok),2,(0:Int)) else if symB (l.take 1) then(⟨5,l.take 1,0,0⟩,1,0) else(noTok,0,1))=
  (if 2≤n∧symB (l.take 2) then((⟨5,l.take 2,0,0⟩:Tok),2,(0:Int)) else if 1≤n∧symB (l.take 1) then(⟨5,l.take 1,0,0⟩,1,0) else(noTok,0,1)),fun n=>n,n0,⟨a1,by omega,by
   by_cases h:l.length<2
   ·rw[a2 h];simp[show¬2≤l.length by omega]
   ·rw[a3 (by omega)];simp[show 2≤l.length by omega]⟩,?_,?_⟩
 ·refine⟨rfl,?_,?_⟩<;>repeat' (first|exact trivial|exact rfl|refine and_rfl ?_|refine and_two ?_ ?_)
 rintro n ⟨b1,b2,hI⟩
 conv=>whnf
 rintro(_|_) h5
 ·simp at h5
  subst h5
  rw[hI]
  (conv=>whnf)<;>rfl
 simp at h5
 conv=>whnf
 refine⟨by omega,by omega,by rw[mk_size];omega,?_⟩
 rw[mk_toI]
 conv=>whnf
 refine⟨_,x_symbol (l.take n) (by rw[List.length_take];omega),?_⟩
 conv=>whnf
 rintro(_|_) h6
 ·conv=>whnf
  refine⟨n - 1,⟨by omega,by omega,by
   rw[hI]
   rcases(by omega:n=1∨n=2) with rfl|rfl
   ·rw[h6];simp
   ·rw[h6];simp⟩,by dsimp only;omega,?_⟩
  have hw:IntKind.i64.wrap ((n:Int) - 1)=((n - 1:Nat):Int):=by rw[IntWalk.i64_in _ (by omega)];omega
  refine⟨rfl,?_,?_⟩<;>repeat' (first|exact trivial|exact rfl|refine and_rfl ?_|refine and_val hw ?_|refine and_two ?_ ?_)
 ·rw[hI]
  conv=>whnf
  refine⟨by omega,by omega,by rw[mk_size];omega,?_⟩
  rw[mk_toI]
  rcases(by omega:n=1∨n=2) with rfl|rfl
  ·rw[if_neg (by omega),if_pos ⟨by omega,h6⟩]
   (conv=>whnf)<;>rfl
  ·rw[if_pos ⟨by omega,h6⟩]
   (conv=>whnf)<;>rfl
end Go.Proofs.YtglndfgmlminpaaGreatDoor
