/- Texts joined by pack.py: XSyXG XSyXI XSyXD XSyXE XSyXF XSyXH XSyXJ XSyWA XSyPI -/
import Derived.Test.YtglndfgmlminpaaGreatDoorSx25
import Derived.Test.YtglndfgmlminpaaGreatDoorSx24
import Derived.Test.YtglndfgmlminpaaGreatDoorSx19
import Derived.Test.YtglndfgmlminpaaGreatDoorSx20
import Derived.LoopN
import Derived.Test.YtglndfgmlminpaaGreatDoorSx21
set_option maxHeartbeats 8000000
set_option maxRecDepth 100000
namespace Go.Proofs.YtglndfgmlminpaaGreatDoor
open Go.RowKit
theorem rep_tabs:∀d:Nat,Lib.repeatL [9] d=tabs d
 |0=>rfl
 |d+1=>by rw[Lib.repeatL,rep_tabs d];simp[tabs,List.replicate_succ]
theorem x_tabs (d:Nat) (hd:d≤1000000):DCalls Tryz.prog 75 [bstr [9],int d] (bstr (tabs d)):=by
 refine⟨⟨_,Tryz.func75,by kernel_rfl,by kernel_rfl⟩,fun w vs hi hvs=>?_⟩
 obtain⟨v0,v1,rfl⟩:∃v0 v1,vs=[v0,v1]:=by
  have:=hvs.1
  match vs,this with
  |[a,b],_=>exact⟨a,b,rfl⟩
 have r0:=hvs.2 0 _ rfl
 have r1:=hvs.2 1 _ rfl
 simp only[List.getD_eq_getElem?_getD,List.getElem?_cons_zero,List.getElem?_cons_succ,Option.getD_some] at r0 r1
 cases r1
 cases r0
 have h:=Tryz.strings_Repeat (mk [9]) d w (by omega) (by rw[mk_size];show 1*d≤_;omega)
 rw[show(mk [9]).data.toList=[9] from rfl,rep_tabs] at h
 refine h.mono ?_
 rintro e w' ⟨rfl,hb⟩
 exact⟨_,rfl,.cv _,hb⟩
theorem tabs_len (d:Nat):(tabs d).length=d:=by simp[tabs]
theorem join_com:∀xs:List Bs,Lib.join xs [44,32]=comB xs
 |[]=>rfl
 |[a]=>by simp[Lib.join,comB]
 |a::b::l=>by
  have:=join_com (b::l)
  unfold Lib.join at this⊢
  rw[comB,←this]
  simp[List.intercalate,List.intersperse]
theorem x_sjoin2 (xs:List Bs) (hn:xs.length≤140737488355328) (hl:(comB xs).length≤140737488355328):DCalls Tryz.prog 37 [strsV xs,bstr [44,32]] (bstr (comB xs)):=by
 refine⟨⟨_,Tryz.func37,by kernel_rfl,by kernel_rfl⟩,fun w vs hi hvs=>?_⟩
 obtain⟨v0,v1,rfl⟩:∃v0 v1,vs=[v0,v1]:=by
  have:=hvs.1
  match vs,this with
  |[a,b],_=>exact⟨a,b,rfl⟩
 have r0:=hvs.2 0 _ rfl
 have r1:=hvs.2 1 _ rfl
 simp only[List.getD_eq_getElem?_getD,List.getElem?_cons_zero,List.getElem?_cons_succ,Option.getD_some] at r0 r1
 cases r1
 cases r0
 rename_i hr
 generalize hxs:xs.map strD=ys at hr
 cases hr with
 |nil _ A cap=>
  have:xs=[]:=by simpa using hxs
  subst this
  refine(Any.strings_Join_none Tryz.lays156 Tryz.Builder_Extra_156 A cap (mk [44,32]) w).mono ?_
  rintro e w' ⟨rfl,rfl⟩
  exact⟨_,rfl,.cv _,Below.refl _ _⟩
 |sl _ _ b o' cap u hS hx hcap hc hd=>
  subst hxs
  rw[List.length_map] at hcap⊢
  have hmm:(xs.map mk).map (·.data.toList)=xs:=by rw[List.map_map];exact List.map_id' xs
  have h:=Tryz.strings_Join b o' cap (xs.map mk) (mk [44,32]) w (fun j x hj=>by
   rw[List.getElem?_map,Option.map_eq_some_iff] at hj
   obtain⟨y,hy,rfl⟩:=hj
   have h0:(((xs.map strD)[j]?).bind fun x=>x[0]?)=some (.cv (.string (mk y))):=by rw[List.getElem?_map,hy];rfl
   have h3:=hc j 0 _ h0
   have h4:=hd j 0 _ h0
   generalize u j 0=z at h3 h4
   cases h4
   rw[show o'+j=o'+j*1+0 by omega];exact h3) hS (by rw[List.length_map];exact hn) (by rw[List.length_map];exact hcap) (by rw[hmm,show(mk [44,32]).data.toList=[44,32] from rfl,join_com];exact hl)
  rw[hmm,show(mk [44,32]).data.toList=[44,32] from rfl,join_com,List.length_map] at h
  refine h.mono ?_
  rintro e w' ⟨rfl,hb⟩
  exact⟨_,rfl,.cv _,hb⟩
section
variable {l:List Nd}
abbrev StmtOk (l:List Nd) (i d:Nat) (p:Bs):Prop:=Wr 76 [int i,int d] l p
abbrev BlockOk (l:List Nd) (i d:Nat) (p:Bs):Prop:=Wr 38 [int i,int d] l p
def linB (d:Nat):List Bs→Bs
 |[]=>[]
 |p::ps=>tabs d++(p++10::linB d ps)
theorem linB_snoc (d:Nat):∀(ps:List Bs) (p:Bs),linB d (ps++[p])=linB d ps++(tabs d++(p++[10]))
 |[],p=>by simp[linB]
 |a::ps,p=>by simp[linB,linB_snoc d ps p]
theorem linB_take {d:Nat} {ps:List Bs} {k:Nat} (h:k<ps.length):linB d (ps.take (k+1))=linB d (ps.take k)++(tabs d++(ps[k]++[10])):=by
 rw[List.take_add_one,List.getElem?_eq_getElem h]
 exact linB_snoc d _ _
theorem linB_le (d:Nat):∀(ps:List Bs) (k:Nat),(linB d (ps.take k)).length≤(linB d ps).length
 |[],k=>by simp[linB]
 |a::ps,0=>by simp[linB]
 |a::ps,k+1=>by
  have:=linB_le d ps k
  simp only[List.take_succ_cons,linB,List.length_append,List.length_cons] at this⊢
  omega
theorem x_pblock {i d:Nat} {K:Int} {s:Bs} {v:Int} {ks:List Bs} {js:List Int} {ps:List Bs} (hi:l[i]?=some ⟨K,s,v,ks,js⟩) (hl:js.length=ps.length) (hn:ps.length≤1000000) (hd:d≤900000)
  (hP:∀(j:Nat) (h:j<ps.length),∃q:Nat,js[j]?=some (q:Int)∧StmtOk l q (d+1) ps[j]):BlockOk l i d (123::10::(linB (d+1) ps++(tabs d++[125]))):=by
 intro bs hb
 simp only[List.length_append,List.length_cons,List.length_nil,tabs_len] at hb
 have hll:(js.map intD).length=ps.length:=by rw[List.length_map];exact hl
 have hg:(l.map ndD)[((i:Nat):Int).toNat]?=some [.cv (.int .i64 K),.cv (.string (mk s)),.cv (.int .i64 v),.sl 1 (ks.map strD),.sl 1 (List.map intD js)]:=by
  rw[Int.toNat_natCast,List.getElem?_map,hi];rfl
 have hwd:IntKind.i64.wrap (((d:Nat):Int)+1)=((d+1:Nat):Int):=wrap_succ (by omega)
 refine pcx Tryz.func38 (by kernel_rfl) (by kernel_rfl) ?_
 conv=>whnf
 refine mcall (T:=TM prM) (φ:=[]) (gf:=false) (x_wsU (l:=l) (bs:=bs) [123,10] (by simp only[List.length_cons,List.length_nil];omega)) ?_
 conv=>whnf
 refine⟨Int.natCast_nonneg i,_,hg,?_⟩
 conv=>whnf
 rw[hll]
 refine⟨[],Nat,fun k=>[(21,int k)],fun k=>[(49,some (wBox (.bx 49 0) 50 l)),(50,some (wRow (bs++[123,10]++linB (d+1) (ps.take k))))],fun k=>k≤ps.length,fun k=>ps.length - k,0,Nat.zero_le _,?_,?_⟩
 ·refine⟨rfl,?_,?_⟩<;>repeat' (first|exact trivial|exact rfl|(simp[linB];done)|refine and_rfl ?_|refine and_two ?_ ?_)
 rintro k hk
 conv=>whnf
 rintro(_|_) h1
 ·have h1:ps.length≤k:=by simp at h1;omega
  have e:ps.take k=ps:=List.take_of_length_le h1
  rw[e]
  conv=>whnf
  refine⟨none,by kernel_rfl,?_⟩
  conv=>whnf
  refine⟨_,x_tabs d (by omega),?_⟩
  conv=>whnf
  refine⟨by rw[mk_size,size_d,tabs_len];show d+1≤_;omega,?_⟩
  conv=>whnf
  rw[catR]
  refine mcall (T:=TM prM) (φ:=[]) (gf:=false) (x_wsU (l:=l) (bs:=bs++[123,10]++linB (d+1) ps) (tabs d++[125]) (by simp only[List.length_append,List.length_cons,List.length_nil,tabs_len];omega)) ?_
  conv=>whnf
  exact⟨rfl,by rw[show bs++123::10::(linB (d+1) ps++(tabs d++[125]))=bs++[123,10]++linB (d+1) ps++(tabs d++[125]) by simp];rfl,rfl⟩
 have h1:k<ps.length:=by simp at h1;omega
 obtain⟨q,hq,hS⟩:=hP k h1
 have hg2:(js.map intD)[((k:Nat):Int).toNat]?=some (intD ((q:Nat):Int)):=by
  rw[Int.toNat_natCast,List.getElem?_map,hq];rfl
 have hw:IntKind.i64.wrap (((k:Nat):Int)+1)=((k+1:Nat):Int):=wrap_succ (by omega)
 have hle:=linB_le (d+1) ps (k+1)
 have e:bs++[123,10]++linB (d+1) (ps.take (k+1))=bs++[123,10]++linB (d+1) (ps.take k)++tabs (d+1)++ps[k]++[10]:=by
  rw[linB_take h1];simp
 have hlen:bs.length+2+(linB (d+1) (ps.take (k+1))).length=(bs++[123,10]++linB (d+1) (ps.take k)).length+(d+1)+ps[k].length+1:=by
  have:=congrArg List.length e
  simp only[List.length_append,List.length_cons,List.length_nil,tabs_len] at this⊢
  omega
 generalize bs++[123,10]++linB (d+1) (ps.take k)=A at e hlen⊢
 conv=>whnf
 refine⟨Int.natCast_nonneg k,_,hg2,?_⟩
 conv=>whnf
 refine⟨none,by kernel_rfl,?_⟩
 conv=>whnf
 rw[hwd]
 refine⟨_,x_tabs (d+1) (by omega),?_⟩
 conv=>whnf
 refine mcall (T:=TM prM) (φ:=[]) (gf:=false) (x_wsU (l:=l) (bs:=A) (tabs (d+1)) (by rw[tabs_len];omega)) ?_
 conv=>whnf
 rw[hwd]
 refine mcall (T:=TM prM) (φ:=[]) (gf:=false) (hS (A++tabs (d+1)) (by simp only[List.length_append,tabs_len];omega)) ?_
 conv=>whnf
 refine mcall (T:=TM prM) (φ:=[]) (gf:=false) (x_wbU (l:=l) (bs:=A++tabs (d+1)++ps[k]) 10 (by simp only[List.length_append,tabs_len];omega)) ?_
 conv=>whnf
 refine⟨k+1,h1,by(try dsimp only);omega,?_⟩
 refine⟨rfl,?_,?_⟩<;>repeat' (first|exact trivial|exact rfl|(rw[e])|(rw[e,List.map_append];rfl)|refine and_rfl ?_|refine and_val hw ?_|refine and_two ?_ ?_)
end
end Go.Proofs.YtglndfgmlminpaaGreatDoor
namespace Go.Proofs.YtglndfgmlminpaaGreatDoor
section
variable {d:Nat} {text:Bs} {val:Int} {keys:List Bs} {ts:List Tr} {A B C:Tr}
end
end Go.Proofs.YtglndfgmlminpaaGreatDoor
namespace Go.Proofs.YtglndfgmlminpaaGreatDoor
open Go.RowKit
section
variable {l:List Nd}
theorem x_bare_var {i:Nat} {s:Bs} {v:Int} {ks:List Bs} {js:List Int} (hi:l[i]?=some ⟨5,s,v,ks,js⟩):BareOk l i s:=by
 intro bs hb
 have hg:(l.map ndD)[((i:Nat):Int).toNat]?=some [.cv (.int .i64 5),.cv (.string (mk s)),.cv (.int .i64 v),.sl 1 (ks.map strD),.sl 1 (List.map intD js)]:=by
  rw[Int.toNat_natCast,List.getElem?_map,hi];rfl
 refine pcx Tryz.func161 (by kernel_rfl) (by kernel_rfl) ?_
 conv=>whnf
 refine⟨Int.natCast_nonneg i,_,hg,?_⟩
 repeat((conv=>whnf);first|refine known true rfl ?_|refine known false rfl ?_)
 refine⟨none,by kernel_rfl,?_⟩
 conv=>whnf
 refine mcall (T:=TM prM) (φ:=[]) (gf:=false) (x_wsU (l:=l) (bs:=bs) s (Nat.le_trans hb (by decide))) ?_
 conv=>whnf
 exact⟨rfl,rfl,rfl⟩
end
end Go.Proofs.YtglndfgmlminpaaGreatDoor
namespace Go.Proofs.YtglndfgmlminpaaGreatDoor
open Go.RowKit
section
variable {l:List Nd}
end
end Go.Proofs.YtglndfgmlminpaaGreatDoor
namespace Go.Proofs.YtglndfgmlminpaaGreatDoor
open Go.RowKit
section
variable {l:List Nd}
theorem x_bare_bin {i q1 q2:Nat} {s:Bs} {v:Int} {ks:List Bs} {p1 p2:Bs} (hi:l[i]?=some ⟨9,s,v,ks,[(q1:Int),(q2:Int)]⟩) (hs:s.length≤1000) (h1:ExprOk l q1 (if binL s=4 then 5 else binL s) p1) (h2:ExprOk l q2 (binL s+1) p2) (hbl: -1000≤binL s∧binL s≤1000):BareOk l i (p1++32::(s++32::p2)):=by
 intro bs hb
 have hg:(l.map ndD)[((i:Nat):Int).toNat]?=some [.cv (.int .i64 9),.cv (.string (mk s)),.cv (.int .i64 v),.sl 1 (ks.map strD),.sl 1 (List.map intD [(q1:Int),(q2:Int)])]:=by
  rw[Int.toNat_natCast,List.getElem?_map,hi];rfl
 refine pcx Tryz.func161 (by kernel_rfl) (by kernel_rfl) ?_
 conv=>whnf
 refine⟨Int.natCast_nonneg i,_,hg,?_⟩
 repeat((conv=>whnf);first|refine known true rfl ?_|refine known false rfl ?_)
 refine mcall (T:=TM prM) (φ:=[]) (gf:=false) (x_oper (l:=l) (k:=9) (v:=v) (ks:=ks) hs h1 h2 hbl bs hb) ?_
 conv=>whnf
 exact⟨rfl,rfl,rfl⟩
end
end Go.Proofs.YtglndfgmlminpaaGreatDoor
namespace Go.Proofs.YtglndfgmlminpaaGreatDoor
open Go.RowKit
section
variable {l:List Nd}
theorem x_stmt_ret {i d q:Nat} {s:Bs} {v:Int} {ks:List Bs} {p:Bs} (hi:l[i]?=some ⟨17,s,v,ks,[(q:Int)]⟩) (hE:ExprOk l q 1 p):StmtOk l i d ([114,101,116,117,114,110,32]++p++[59]):=by
 intro bs hb
 simp only[List.length_append,List.length_cons,List.length_nil] at hb
 have hg:(l.map ndD)[((i:Nat):Int).toNat]?=some [.cv (.int .i64 17),.cv (.string (mk s)),.cv (.int .i64 v),.sl 1 (ks.map strD),.sl 1 (List.map intD [(q:Int)])]:=by
  rw[Int.toNat_natCast,List.getElem?_map,hi];rfl
 refine pcx Tryz.func76 (by kernel_rfl) (by kernel_rfl) ?_
 conv=>whnf
 refine⟨Int.natCast_nonneg i,_,hg,?_⟩
 repeat((conv=>whnf);first|refine known true rfl ?_|refine known false rfl ?_)
 refine mcall (T:=TM prM) (φ:=[]) (gf:=false) (x_wsU (l:=l) (bs:=bs) [114,101,116,117,114,110,32] (by(try simp only[List.length_cons,List.length_nil]);omega)) ?_
 repeat((conv=>whnf);first|refine known true rfl ?_|refine known false rfl ?_)
 refine⟨by decide,_,rfl,?_⟩
 conv=>whnf
 refine mcall (T:=TM prM) (φ:=[]) (gf:=false) (hE (bs++[114,101,116,117,114,110,32]) (by(try simp only[List.length_append,List.length_cons,List.length_nil]);omega)) ?_
 repeat((conv=>whnf);first|refine known true rfl ?_|refine known false rfl ?_)
 refine mcall (T:=TM prM) (φ:=[]) (gf:=false) (x_wbU (l:=l) (bs:=bs++[114,101,116,117,114,110,32]++p) 59 (by(try simp only[List.length_append,List.length_cons,List.length_nil]);omega)) ?_
 conv=>whnf
 exact⟨rfl,by rw[show bs++([114,101,116,117,114,110,32]++p++[59])=bs++[114,101,116,117,114,110,32]++p++[59] by simp];rfl,rfl⟩
end
end Go.Proofs.YtglndfgmlminpaaGreatDoor
namespace Go.Proofs.YtglndfgmlminpaaGreatDoor
section
variable {l:List Nd}
end
end Go.Proofs.YtglndfgmlminpaaGreatDoor
namespace Go.Proofs.YtglndfgmlminpaaGreatDoor
open Go.RowKit
theorem closed_nil (A:Option Addr) (cap:Nat) (w:World):Calls Tryz.prog 254 #[.slice A 0 cap] w fun e w'=>e= .returned (.slice A 0 cap)∧w'=w:=by
 go_enter Tryz.func254,Tryz.ntmps254
 go_wp2
 refine wp_loop_rounds 1 ?_
 rw[rounds_succ]
 go_wp2
 go_ret
 exact⟨rfl,rfl⟩
theorem x_closed:DCalls Tryz.prog 254 [.sl true 5 []] (.sl true 5 []):=by
 refine⟨⟨_,Tryz.func254,by kernel_rfl,by kernel_rfl⟩,fun w vs hi hvs=>?_⟩
 obtain⟨v0,rfl⟩:∃v0,vs=[v0]:=by
  have:=hvs.1
  match vs,this with
  |[a],_=>exact⟨a,rfl⟩
 have r0:=hvs.2 0 _ rfl
 simp only[List.getD_eq_getElem?_getD,List.getElem?_cons_zero,Option.getD_some] at r0
 cases r0
 rename_i hr
 cases hr with
 |nil _ A cap=>
  refine(closed_nil A cap w).mono ?_
  rintro e w' ⟨rfl,rfl⟩
  exact⟨_,rfl,.sl _ _ _ _ (.nil _ _ _),Below.refl _ _⟩
 |sl _ _ b o' cap u hS hx hcap hc hd=>
  refine(closed_nil (some ⟨b,o',none⟩) cap w).mono ?_
  rintro e w' ⟨rfl,rfl⟩
  exact⟨_,rfl,.sl _ _ _ _ (.nil _ _ _),Below.refl _ _⟩
theorem x_vtext (l:Bs) (hl:l.length≤281474976710656):DCalls Tryz.prog 257 [bstr l] (boo (okB l)):=by
 refine sx Tryz.func257 (by kernel_rfl) ?_
 conv=>whnf
 refine⟨[],Nat,fun k=>[(6,int k)],fun _=>[],fun k=>k≤l.length∧okB (l.drop k)=okB l,fun k=>l.length - k,0,⟨Nat.zero_le _,rfl⟩,?_,?_⟩
 ·refine⟨rfl,?_,?_⟩<;>repeat' (first|exact trivial|exact rfl|refine and_rfl ?_|refine and_two ?_ ?_)
 rintro k ⟨hk1,hk⟩
 conv=>whnf
 rintro(_|_) h2
 ·have h2:l.length≤k:=by simp[mk_size] at h2;omega
  rw[List.drop_eq_nil_of_le h2] at hk
  rw[←hk]
  (conv=>whnf)<;>rfl
 have h2:k<l.length:=by simp[mk_size] at h2;omega
 have hw:IntKind.i64.wrap (((k:Nat):Int)+1)=((k+1:Nat):Int):=wrap_succ (by omega)
 rw[drop_cons h2] at hk
 conv=>whnf
 refine⟨by omega,_,mk_at h2,?_⟩
 conv=>whnf
 rintro(_|_) h3
 rotate_left
 ·rw[show okB l=false by rw[←hk];unfold okB;rw[List.all_cons,rangeB];simp at*;omega]
  (conv=>whnf)<;>rfl
 conv=>whnf
 refine⟨by omega,_,mk_at h2,?_⟩
 conv=>whnf
 rintro(_|_) h4
 rotate_left
 ·rw[show okB l=false by rw[←hk];unfold okB;rw[List.all_cons,rangeB];simp at*;omega]
  (conv=>whnf)<;>rfl
 have hr:(!(decide (l[k]<32)||decide (l[k]>126)))=true:=by rw[rangeB];simp at*;omega
 have hk:okB (l.drop (k+1))=okB l:=by rw[←hk];unfold okB;rw[List.all_cons,hr];rfl
 conv=>whnf
 refine⟨k+1,⟨h2,hk⟩,by dsimp only;omega,?_⟩
 refine⟨rfl,?_,?_⟩<;>repeat' (first|exact trivial|exact rfl|refine and_rfl ?_|refine and_val hw ?_|refine and_two ?_ ?_)
def qlen (l:Bs):Int:=IntKind.i64.wrap (IntKind.i64.wrap (IntKind.i64.wrap ((l.length:Nat)+2:Int)+(l.count 34:Nat))+(l.count 92:Nat))
theorem x_vquoted (l:Bs):DCalls Tryz.prog 252 [bstr l] (int (qlen l)):=by
 refine sx Tryz.func252 (by kernel_rfl) ?_
 conv=>whnf
 refine⟨_,x_count (mk l) 34,?_⟩
 conv=>whnf
 refine⟨_,x_count (mk l) 92,?_⟩
 conv=>whnf
 rw[mk_size]
 rfl
theorem qlen_eq (l:Bs) (hl:l.length≤281474976710656):qlen l=((l.length+2+l.count 34+l.count 92:Nat):Int):=by
 have hc:=List.count_le_length (a:=34) (l:=l)
 have hd:=List.count_le_length (a:=92) (l:=l)
 unfold qlen
 rw[IntWalk.i64_in ((l.length:Nat)+2:Int) (by omega),IntWalk.i64_in (_+((l.count 34:Nat):Int)) (by omega),IntWalk.i64_in _ (by omega)]
 omega
def strC (l:Bs):List D:=[.cv (.int .i64 4),.cv (.int .i64 0),.cv (.string (mk l)),.cv (.int .i64 0)]
abbrev strCV (l:Bs):V:= .ag [int 4,int 0,bstr l,int 0]
theorem x_vplain (l:Bs) (hl:l.length≤281474976710656):DCalls Tryz.prog 251 [strCV l] (boo (okB l)):=by
 refine sx Tryz.func251 (by kernel_rfl) ?_
 iterate 3 ((conv=>whnf);refine known false rfl ?_)
 iterate 3 ((conv=>whnf);refine known true rfl ?_)
 conv=>whnf
 refine⟨_,x_vtext l hl,?_⟩
 (conv=>whnf)<;>rfl
theorem x_vsize (l:Bs):DCalls Tryz.prog 253 [strCV l] (int (qlen l)):=by
 refine sx Tryz.func253 (by kernel_rfl) ?_
 iterate 3 ((conv=>whnf);refine known false rfl ?_)
 conv=>whnf
 refine known true rfl ?_
 conv=>whnf
 refine⟨_,x_vquoted l,?_⟩
 (conv=>whnf)<;>rfl
abbrev lookV (l:Bs):V:=if okB l=true then .tu [int 1,.ag [int 1,int (qlen l),boo false,boo (decide (l.length>200))],boo true] else .tu [int 0,.ag [int 0,int 0,boo false,boo false],boo false]
theorem x_vlook (f:Bool) (l:Bs) (hl:l.length≤281474976710656):DCalls Tryz.prog 239 [.sl f 4 [strC l]] (lookV l):=by
 refine sx Tryz.func239 (by kernel_rfl) ?_
 conv=>whnf
 refine⟨[],Unit,fun _=>[(13,int 0),(6,.cv (.slice none 0 0))],fun _=>[(3,some (.box [int 0,int 0,boo false,boo false])),(5,some (.box [int 0,int 0,boo false,boo false]))],fun _=>True,fun _=>0,(),trivial,?_,?_⟩
 ·refine⟨rfl,?_,?_⟩<;>repeat' (first|exact trivial|exact rfl|refine and_rfl ?_|refine and_two ?_ ?_)
 rintro _ _
 conv=>whnf
 refine known true rfl ?_
 conv=>whnf
 refine⟨by omega,_,rfl,?_⟩
 conv=>whnf
 refine⟨_,x_vplain l hl,?_⟩
 conv=>whnf
 rintro(_|_) h1
 rotate_left
 ·have h1:okB l=false:=by simpa using h1
  unfold lookV
  rw[h1,if_neg (by simp)]
  conv=>whnf
  refine⟨none,by kernel_rfl,?_⟩
  (conv=>whnf)<;>rfl
 have h1:okB l=true:=by simpa using h1
 unfold lookV
 rw[if_pos h1]
 repeat((conv=>whnf);first|refine known true rfl ?_|refine known false rfl ?_|refine⟨_,x_vsize l,?_⟩|refine⟨none,by kernel_rfl,?_⟩)
 conv=>whnf
 refine⟨_,x_closed,?_⟩
 conv=>whnf
 refine known true rfl ?_
 conv=>whnf
 refine⟨none,by kernel_rfl,?_⟩
 conv=>whnf
 have hq:=qlen_eq l hl
 have hc:=List.count_le_length (a:=34) (l:=l)
 have hd:=List.count_le_length (a:=92) (l:=l)
 rw[show IntKind.i64.wrap (0+qlen l)=qlen l by rw[Int.zero_add,IntWalk.i64_in _ (by omega)],mk_size]
 have e:decide (((l.length:Nat):Int)>200)=decide (l.length>200):=by rw[Bool.eq_iff_iff];simp;omega
 rw[e]
 rfl
def strE (l:Bs):Int:=if okB l then if l.length≤200 then 0 else 3 else 1
theorem strE0 (l:Bs):(strE l=0)↔contB l=true:=by
 rw[contB_okB];unfold strE
 cases okB l<;>simp
theorem x_vcheck (l:Bs) (hl:l.length≤281474976710656):DCalls Tryz.prog 220 [.sl true 4 [strC l]] (int (strE l)):=by
 have hL:=x_vlook true l hl
 have hq:=qlen_eq l hl
 have hc:=List.count_le_length (a:=34) (l:=l)
 have hd:=List.count_le_length (a:=92) (l:=l)
 unfold lookV at hL
 refine sx Tryz.func220 (by kernel_rfl) ?_
 cases h:okB l with
 |false=>
  rw[h,if_neg (by simp)] at hL
  conv=>whnf
  refine⟨_,hL,?_⟩
  conv=>whnf
  refine known true rfl ?_
  conv=>whnf
  rw[show strE l=1 by unfold strE;rw[h];rfl]
 |true=>
  rw[h,if_pos rfl] at hL
  conv=>whnf
  refine⟨_,hL,?_⟩
  conv=>whnf
  refine known false rfl ?_
  conv=>whnf
  refine known false rfl ?_
  conv=>whnf
  refine known false rfl ?_
  by_cases h2:l.length≤200
  ·rw[show strE l=0 by unfold strE;rw[h,if_pos rfl,if_pos h2]]
   conv=>whnf
   refine known false (by simp;omega) ?_
   conv=>whnf
   refine known false rfl ?_
   conv=>whnf
   refine known false rfl ?_
   conv=>whnf
   refine known false (by simp;omega) ?_
   (conv=>whnf)<;>rfl
  ·rw[show strE l=3 by unfold strE;rw[h,if_pos rfl,if_neg h2]]
   conv=>whnf
   refine known true (by simp;omega) ?_
   (conv=>whnf)<;>rfl
abbrev strEV (l:Bs):V:=if strE l=0 then .tu [.un,int 0] else .tu [.sl true 4 [],int (strE l)]
theorem x_vchecked (l:Bs) (hl:l.length≤281474976710656):DCalls Tryz.prog 203 [.sl true 4 [strC l]] (strEV l):=by
 refine sx Tryz.func203 (by kernel_rfl) ?_
 conv=>whnf
 refine⟨_,x_vcheck l hl,?_⟩
 conv=>whnf
 rintro(_|_) h
 ·have h:strE l=0:=by simpa using h
  unfold strEV
  rw[if_pos h]
  conv=>whnf
 ·have h:strE l≠0:=by simpa using h
  unfold strEV
  rw[if_neg h]
  (conv=>whnf)<;>rfl
theorem x_vstr (l:Bs) (hl:l.length≤281474976710656):DCalls Tryz.prog 177 [bstr l] (strEV l):=by
 have hL:=x_vchecked l hl
 refine sx Tryz.func177 (by kernel_rfl) ?_
 unfold strEV at*
 by_cases h:strE l=0
 ·rw[if_pos h] at*
  conv=>whnf
  refine⟨_,hL,?_⟩
  (conv=>whnf)<;>rfl
 ·rw[if_neg h] at*
  conv=>whnf
  refine⟨_,hL,?_⟩
  (conv=>whnf)<;>rfl
theorem x_stext (l:Bs) (hl:l.length≤281474976710656):DCalls Tryz.prog 148 [bstr l] (boo (contB l)):=by
 have hL:=x_vstr l hl
 refine sx Tryz.func148 (by kernel_rfl) ?_
 unfold strEV at hL
 by_cases h:strE l=0
 ·rw[if_pos h] at hL
  conv=>whnf
  refine⟨_,hL,?_⟩
  rw[(strE0 l).mp h]
  (conv=>whnf)<;>rfl
 ·rw[if_neg h] at hL
  conv=>whnf
  refine⟨_,hL,?_⟩
  conv=>whnf
  rw[show(strE l==0)=contB l by rw[Bool.eq_iff_iff,←strE0];simp]
end Go.Proofs.YtglndfgmlminpaaGreatDoor
namespace Go.Proofs.YtglndfgmlminpaaGreatDoor
def GrowP (p:Pars):Prop:=∀{r ns i r1 ns1},p r ns= .ok (i,r1,ns1)→ns1.length+r1.length≤ns.length+r.length
theorem addN_grow {n:Nd} {r r1:List Tok} {ns ns1:List Nd} {i:Int} (h:addN n r ns= .ok (i,r1,ns1)):r1.length=r.length∧ns1.length=ns.length+1:=by
 obtain⟨rfl,rfl,_⟩:=addN_ok h;simp
section
variable {e:Int} {E:Pars} (hE:GrowP E) (hC:EatsP E)
include hE hC
theorem listF_grow {fin:Bs}:∀(f:Nat) {l:List Int} {r:List Tok} {ns:List Nd} {l1:List Int} {r1:List Tok} {ns1:List Nd},listF e fin E f l r ns= .ok (l1,r1,ns1)→ns1.length+r1.length≤ns.length+r.length∧l1.length+r1.length≤l.length+r.length
 |0,l,r,ns,l1,r1,ns1,h=>by cases h
 |f+1,l,r,ns,l1,r1,ns1,h=>by
  simp only[listF] at h
  split at h
  ·cases h
  ·rename_i i r2 ns2 h2
   have h3:=hE h2
   have h4:=(hC h2).lt
   split at h
   ·cases h;simp;omega
   ·split at h
    ·rename_i hc
     have:=listF_grow f h
     have:=(Eats.of_tk hc).lt
     simp at*
     omega
    ·cases h
theorem listP_grow {fin:Bs} {r r1:List Tok} {ns ns1:List Nd} {l:List Int} (h:listP e fin E r ns= .ok (l,r1,ns1)):ns1.length+r1.length≤ns.length+r.length∧l.length+r1.length≤r.length:=by
 unfold listP at h
 split at h
 ·cases h;simp
 ·have:=listF_grow hE hC _ h
  simp at this
  omega
theorem keyF_grow:∀(f:Nat) {ks:List Bs} {l:List Int} {r:List Tok} {ns:List Nd} {i:Int} {r1:List Tok} {ns1:List Nd},keyF e E f ks l r ns= .ok (i,r1,ns1)→ns1.length+r1.length≤ns.length+r.length
 |0,ks,l,r,ns,i,r1,ns1,h=>by have _h:=@hC;cases h
 |f+1,ks,l,r,ns,i,r1,ns1,h=>by
  simp only[keyF] at h
  split at h
  rotate_left
  ·cases h
  rename_i hk
  split at h
  ·cases h
  rename_i r2 h2
  split at h
  ·cases h
  rename_i j r3 ns3 h3
  have g1:=(Eats.of_tail hk.2.1).lt
  have g2:=(mustT_eats h2).lt
  have g3:=hE h3
  split at h
  ·have:=addN_grow h
   simp at*
   omega
  ·split at h
   ·have:=keyF_grow f h
    simp at*
    omega
   ·cases h
theorem keyP_grow {r r1:List Tok} {ns ns1:List Nd} {i:Int} (h:keyP e E r ns= .ok (i,r1,ns1)):ns1.length+r1.length≤ns.length+r.length:=by
 unfold keyP at h
 split at h
 ·rename_i hk
  have:=addN_grow h
  have:=(Eats.of_tk hk).lt
  omega
 ·exact keyF_grow hE hC _ h
theorem primP_grow:GrowP (primP e E):=by
 intro r ns i r1 ns1 h
 unfold primP at h
 cases r with
 |nil=>cases h
 |cons t r=>
  rw[List.length_cons]
  dsimp only at h
  split at h
  ·have:=addN_grow h;omega
  split at h
  ·have:=addN_grow h;omega
  split at h
  ·have:=addN_grow h;omega
  split at h
  ·have:=addN_grow h;omega
  split at h
  ·have:=addN_grow h;omega
  split at h
  ·split at h
   ·rename_i hk
    split at h
    ·cases h
    ·rename_i h2
     have:=addN_grow h
     have:=(listP_grow hE hC h2).1
     have:=(Eats.of_tk hk).lt
     omega
   ·have:=addN_grow h;omega
  split at h
  ·split at h
   ·cases h
   ·rename_i h2
    split at h
    ·cases h
    ·rename_i h3
     have:=addN_grow h
     have:=(listP_grow hE hC h3).1
     have:=(mustT_eats h2).lt
     omega
  split at h
  ·split at h
   ·cases h
   ·rename_i h2
    have:=addN_grow h
    have:=(listP_grow hE hC h2).1
    omega
  split at h
  ·have:=keyP_grow hE hC h;omega
  split at h
  ·split at h
   ·cases h
   ·rename_i h2
    split at h
    ·cases h
    ·rename_i h3
     cases h
     have:=hE h2
     have:=(mustT_eats h3).lt
     omega
  ·cases h
theorem postF_grow:∀(f:Nat) {i:Int} {r:List Tok} {ns:List Nd} {j:Int} {r1:List Tok} {ns1:List Nd},postF e E f i r ns= .ok (j,r1,ns1)→ns1.length+r1.length≤ns.length+r.length
 |0,i,r,ns,j,r1,ns1,h=>by have _h:=@hC;cases h;exact Nat.le_refl _
 |f+1,i,r,ns,j,r1,ns1,h=>by
  simp only[postF] at h
  split at h
  ·rename_i hk
   split at h
   ·cases h
   rename_i h2
   split at h
   ·cases h
   rename_i h3
   have g1:=(Eats.of_tk hk).lt
   have g2:=hE h2
   have g3:=(mustT_eats h3).lt
   have g4:=postF_grow f h
   simp at*
   omega
  ·cases h;exact Nat.le_refl _
theorem postP_grow:GrowP (postP e E):=by
 intro r ns i r1 ns1 h
 unfold postP at h
 split at h
 ·cases h
 ·rename_i h2
  have:=primP_grow hE hC h2
  have:=postF_grow hE hC _ h
  omega
theorem unaryP_grow:GrowP (unaryP e E):=by
 intro r
 induction r with
 |nil=>intro ns i r1 ns1 h;exact postP_grow hE hC h
 |cons t r ih=>
  intro ns i r1 ns1 h
  simp only[unaryP] at h
  split at h
  ·split at h
   ·cases h
   ·rename_i h2
    have:=addN_grow h
    have:=ih h2
    rw[List.length_cons]
    omega
  ·exact postP_grow hE hC h
omit hE hC in
theorem chainF_grow {k:Int} {ops:List Bs} {O:Pars} (hO:GrowP O):∀(f:Nat) {i:Int} {r:List Tok} {ns:List Nd} {j:Int} {r1:List Tok} {ns1:List Nd},chainF k ops O f i r ns= .ok (j,r1,ns1)→ns1.length+r1.length≤ns.length+r.length
 |0,i,r,ns,j,r1,ns1,h=>by cases h;exact Nat.le_refl _
 |f+1,i,r,ns,j,r1,ns1,h=>by
  simp only[chainF] at h
  split at h
  ·rename_i hk
   split at h
   ·cases h
   rename_i h2
   have g1:=(Eats.of_tail hk.2.2).lt
   have g2:=hO h2
   have g3:=chainF_grow hO f h
   simp at*
   omega
  ·cases h;exact Nat.le_refl _
omit hE hC in
theorem chainP_grow {k:Int} {ops:List Bs} {O:Pars} (hO:GrowP O):GrowP (chainP k ops O):=by
 intro r ns i r1 ns1 h
 unfold chainP at h
 split at h
 ·cases h
 ·rename_i h2
  have:=hO h2
  have:=chainF_grow hO _ h
  omega
theorem termP_grow:GrowP (termP e E):=chainP_grow (unaryP_grow hE hC)
theorem sumP_grow:GrowP (sumP e E):=chainP_grow (termP_grow hE hC)
theorem cmpP_grow:GrowP (cmpP e E):=by
 intro r ns i r1 ns1 h
 unfold cmpP at h
 split at h
 ·cases h
 ·rename_i h2
  have g1:=sumP_grow hE hC h2
  split at h
  ·rename_i hk
   split at h
   ·cases h
   ·rename_i h4
    have:=addN_grow h
    have:=sumP_grow hE hC h4
    have:=(Eats.of_tail hk.2.2).lt
    omega
  ·cases h;exact g1
theorem notP_grow:GrowP (notP e E):=by
 intro r
 induction r with
 |nil=>intro ns i r1 ns1 h;exact cmpP_grow hE hC h
 |cons t r ih=>
  intro ns i r1 ns1 h
  simp only[notP] at h
  split at h
  ·split at h
   ·cases h
   ·rename_i h2
    have:=addN_grow h
    have:=ih h2
    rw[List.length_cons]
    omega
  ·exact cmpP_grow hE hC h
theorem andP_grow:GrowP (andP e E):=chainP_grow (notP_grow hE hC)
theorem orP_grow:GrowP (orP e E):=chainP_grow (andP_grow hE hC)
end
theorem exprP_grow {e:Int}:∀f,GrowP (exprP e f)
 |0=>fun h=>by cases h
 |f+1=>orP_grow (exprP_grow f) (exprP_eats f)
theorem valueP_grow {e:Int} {f:Nat} {kind:Int} {text:Bs}:GrowP (valueP e f kind text):=by
 intro r ns i r1 ns1 h
 unfold valueP at h
 split at h
 ·cases h
 ·rename_i h2
  split at h
  ·cases h
  ·rename_i h3
   have:=addN_grow h
   have:=exprP_grow f h2
   have:=(mustT_eats h3).lt
   omega
theorem stmtP_grow {e:Int} {f:Nat} {Bl:Pars} (hB:GrowP Bl):GrowP (stmtP e f Bl):=by
 intro r ns i r1 ns1 h
 unfold stmtP at h
 split at h
 ·rename_i hk
  split at h
  ·cases h
  rename_i h2
  split at h
  ·cases h
  rename_i h3
  have:=(Eats.of_tk hk).lt
  have:=(mustK_eats h2).lt
  have:=(mustT_eats h3).lt
  have:=valueP_grow h
  omega
 split at h
 ·rename_i hk
  split at h
  ·cases h
  rename_i h2
  split at h
  ·cases h
  rename_i h3
  have g1:=(Eats.of_tk hk).lt
  have g2:=exprP_grow f h2
  have g3:=hB h3
  split at h
  ·rename_i hk2
   split at h
   ·cases h
   rename_i h5
   have:=addN_grow h
   have:=(Eats.of_tk hk2).lt
   have:=hB h5
   omega
  ·have:=addN_grow h
   omega
 split at h
 ·rename_i hk
  split at h
  ·cases h
  rename_i h2
  split at h
  ·cases h
  rename_i h3
  have:=(Eats.of_tk hk).lt
  have:=exprP_grow f h2
  have:=hB h3
  have:=addN_grow h
  omega
 split at h
 ·rename_i hk
  have:=(Eats.of_tk hk).lt
  have:=valueP_grow h
  omega
 split at h
 ·have:=valueP_grow h
  simp at this
  omega
 ·exact valueP_grow h
theorem stmtsF_grow {e:Int} {S:Pars} (hS:GrowP S):∀(g:Nat) {l:List Int} {r:List Tok} {ns:List Nd} {i:Int} {r1:List Tok} {ns1:List Nd},stmtsF e S g l r ns= .ok (i,r1,ns1)→ns1.length+r1.length≤ns.length+r.length
 |0,l,r,ns,i,r1,ns1,h=>by cases h
 |g+1,l,r,ns,i,r1,ns1,h=>by
  simp only[stmtsF] at h
  split at h
  ·rename_i hk
   have:=addN_grow h
   have:=(Eats.of_tk hk).lt
   omega
  ·split at h
   ·cases h
   ·rename_i h2
    have:=hS h2
    have:=stmtsF_grow hS g h
    omega
theorem blockP_grow {e:Int}:∀f,GrowP (blockP e f)
 |0=>fun h=>by cases h
 |f+1=>fun h=>by
  simp only[blockP] at h
  split at h
  ·cases h
  ·rename_i h2
   have:=(mustT_eats h2).lt
   have:=stmtsF_grow (stmtP_grow (blockP_grow f)) _ h
   omega
theorem parF_grow {e:Int}:∀(f:Nat) {l:List Bs} {r:List Tok} {l1:List Bs} {r1:List Tok},parF e f l r= .ok (l1,r1)→l1.length+r1.length≤l.length+r.length
 |0,l,r,l1,r1,h=>by cases h
 |f+1,l,r,l1,r1,h=>by
  simp only[parF] at h
  split at h
  ·cases h
  ·rename_i h2
   have g1:=(mustK_eats h2).lt
   split at h
   ·rename_i hk
    have:=(Eats.of_tk hk).lt
    cases h
    simp at*
    omega
   ·split at h
    ·rename_i hk
     have:=(Eats.of_tk hk).lt
     have:=parF_grow f h
     simp at*
     omega
    ·cases h
theorem funcP_grow {e:Int} {f:Nat} {r:List Tok} {ns:List Nd} {x:Fc} {r1:List Tok} {ns1:List Nd} (h:funcP e f r ns= .ok (x,r1,ns1)):ns1.length+r1.length≤ns.length+r.length:=by
 unfold funcP at h
 split at h
 ·cases h
 rename_i h1
 split at h
 ·cases h
 rename_i h2
 split at h
 ·cases h
 rename_i h3
 split at h
 ·cases h
 rename_i h4
 split at h
 ·cases h
 rename_i h5
 cases h
 have:=(mustT_eats h1).lt
 have:=(mustK_eats h2).lt
 have:=(mustT_eats h3).lt
 have:=(parP_eats h4).lt
 have:=blockP_grow f h5
 omega
end Go.Proofs.YtglndfgmlminpaaGreatDoor
