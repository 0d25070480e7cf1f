/- Texts joined by pack.py: XSyYP -/
import Derived.Test.YtglndfgmlminpaaGreatDoorSx36
set_option maxHeartbeats 16000000
set_option maxRecDepth 100000
namespace Go.Proofs.YtglndfgmlminpaaGreatDoor
open Go.RowKit Go.Shelf
section
variable {l:List Nd}
theorem e_if {i:Nat} {req:Int} {p q:Bs} (hi:i<l.length) (hB:BareOk l i p) (h:(if levN l[i]<req then 40::(p++[41]) else p)=q):ExprOk l i req q:=h▸x_pexpr req hi hB
theorem e_tok {n:Nat} (hn:n<10):Wr 179 [(⟨3,[],(n:Int),0⟩:Tok).V] l [UInt8.ofNat (48+n)]:=by
 intro bs hb
 have h:=xt_int [] n 0 (by decide) (by omega)
 have e:textT ⟨3,[],(n:Int),0⟩=([UInt8.ofNat (48+n)],0):=by
  unfold textT
  rw[if_pos ⟨rfl,rfl,Int.natCast_nonneg n,by show validB (n:Int)=true;unfold validB;simp;omega⟩,itoa_d n hn]
 rw[e] at h
 simp only[List.length_cons,List.length_nil] at hb
 refine pcx Tryz.func179 (by kernel_rfl) (by kernel_rfl) ?_
 conv=>whnf
 refine⟨_,h,?_⟩
 conv=>whnf
 refine mcall (T:=TM prM) (φ:=[]) (gf:=false) (x_wsU (l:=l) (bs:=bs) [UInt8.ofNat (48+n)] (by simp only[List.length_cons,List.length_nil];omega)) ?_
 conv=>whnf
 exact⟨rfl,rfl,rfl⟩
theorem e_int {i n:Nat} {s:Bs} {ks:List Bs} {js:List Int} (hi:l[i]?=some ⟨3,s,(n:Int),ks,js⟩) (hn:n<10):BareOk l i [UInt8.ofNat (48+n)]:=by
 intro bs hb
 have hg:(l.map ndD)[((i:Nat):Int).toNat]?=some [.cv (.int .i64 3),.cv (.string (mk s)),.cv (.int .i64 (n:Int)),.sl 1 (ks.map strD),.sl 1 (List.map intD js)]:=by
  rw[Int.toNat_natCast,List.getElem?_map,hi];rfl
 refine pcx Tryz.func161 (by kernel_rfl) (by kernel_rfl) ?_
 conv=>whnf
 refine⟨Int.natCast_nonneg i,_,hg,?_⟩
 repeat((conv=>whnf);first|refine known true rfl ?_|refine known false rfl ?_)
 refine mcall (T:=TM prM) (φ:=[]) (gf:=false) (e_tok (l:=l) hn bs hb) ?_
 conv=>whnf
 exact⟨rfl,rfl,rfl⟩
end
theorem ex1_b4:BareOk exP1.nodes 4 [101,32,43,32,49,32,42,32,50]:=by
 have v:BareOk exP1.nodes 0 [101]:=x_bare_var (s:=[101]) (v:=0) (ks:=[]) (js:=[]) rfl
 have n1:BareOk exP1.nodes 1 [49]:=e_int (n:=1) (s:=[]) (ks:=[]) (js:=[]) rfl (by decide)
 have n2:BareOk exP1.nodes 2 [50]:=e_int (n:=2) (s:=[]) (ks:=[]) (js:=[]) rfl (by decide)
 have e0:ExprOk exP1.nodes 0 5 [101]:=e_if (i:=0) (by decide) v (by decide)
 have e1:ExprOk exP1.nodes 1 6 [49]:=e_if (i:=1) (by decide) n1 (by decide)
 have e2:ExprOk exP1.nodes 2 7 [50]:=e_if (i:=2) (by decide) n2 (by decide)
 have b3:BareOk exP1.nodes 3 [49,32,42,32,50]:=x_bare_bin (i:=3) (q1:=1) (q2:=2) (s:=[42]) (v:=0) (ks:=[]) rfl (by decide) e1 e2 (by decide)
 have e3:ExprOk exP1.nodes 3 6 [49,32,42,32,50]:=e_if (i:=3) (by decide) b3 (by decide)
 exact x_bare_bin (i:=4) (q1:=0) (q2:=3) (s:=[43]) (v:=0) (ks:=[]) rfl (by decide) e0 e3 (by decide)
theorem ex3_b4:BareOk exP3.nodes 4 [40,101,32,43,32,49,41,32,42,32,50]:=by
 have v:BareOk exP3.nodes 0 [101]:=x_bare_var (s:=[101]) (v:=0) (ks:=[]) (js:=[]) rfl
 have n1:BareOk exP3.nodes 1 [49]:=e_int (n:=1) (s:=[]) (ks:=[]) (js:=[]) rfl (by decide)
 have n2:BareOk exP3.nodes 3 [50]:=e_int (n:=2) (s:=[]) (ks:=[]) (js:=[]) rfl (by decide)
 have e0:ExprOk exP3.nodes 0 5 [101]:=e_if (i:=0) (by decide) v (by decide)
 have e1:ExprOk exP3.nodes 1 6 [49]:=e_if (i:=1) (by decide) n1 (by decide)
 have e2:ExprOk exP3.nodes 3 7 [50]:=e_if (i:=3) (by decide) n2 (by decide)
 have b3:BareOk exP3.nodes 2 [101,32,43,32,49]:=x_bare_bin (i:=2) (q1:=0) (q2:=1) (s:=[43]) (v:=0) (ks:=[]) rfl (by decide) e0 e1 (by decide)
 have e3:ExprOk exP3.nodes 2 6 [40,101,32,43,32,49,41]:=e_if (i:=2) (by decide) b3 (by decide)
 exact x_bare_bin (i:=4) (q1:=2) (q2:=3) (s:=[42]) (v:=0) (ks:=[]) rfl (by decide) e3 e2 (by decide)
theorem ex_block {l:List Nd} {p:Bs} (h4:∃h:4<l.length,levN l[4]=9∨4<levN l[4]) (hb:BareOk l 4 p) (h5:l[5]?=some ⟨17,[],0,[],[4]⟩) (h6:l[6]?=some ⟨19,[],0,[],[5]⟩):
  BlockOk l 6 0 (123::10::(linB 1 [[114,101,116,117,114,110,32]++p++[59]]++(tabs 0++[125]))):=
 x_pblock (ps:=[[114,101,116,117,114,110,32]++p++[59]]) h6 rfl (by simp) (by decide) fun j h=>by
  obtain rfl:j=0:=by simp at h;omega
  obtain⟨h,h1⟩:=h4
  exact⟨5,rfl,x_stmt_ret (q:=4) h5 (e_if h hb (if_neg (by omega)))⟩
theorem x_printE (p:Pg) (hp:PgOk p) (hc:checkP p=0) {nm:Bs} {ps:List Bs} {q:Nat} {B S:Bs} (hf:p.funcs=[⟨nm,ps,q⟩]) (hBk:BlockOk p.nodes q 0 B) (hS:[102,117,110,99,32]++nm++[40]++comB ps++[41,32]++B++[10]=S) (hl:S.length≤4000)
  (hn:ps.length≤1000) (h6:(tokens S).2.2=0):DCalls Tryz.prog 15 [p.V] (prV (S,0)):=by
 have hx:=x_check p hp
 rw[hc] at hx
 have hlen:=congrArg List.length hS
 simp only[List.length_append,List.length_cons,List.length_nil] at hlen
 have hne:S≠[]:=by rw[←hS];simp
 obtain⟨l,fs⟩:=p
 dsimp only at hf
 subst hf
 dsimp only at hBk
 refine pdx Tryz.func15 (by kernel_rfl) ?_
 conv=>whnf
 refine⟨_,hx,?_⟩
 conv=>whnf
 refine known false rfl ?_
 conv=>whnf
 refine⟨[(1000000+1000*19+1,60,5,1)],Nat,fun k=>[(23,int k)],fun k=>[(19,some (.box [(match k with|0=>nilP|_+1=> .bx 19 0),.ow 60 0,.sl false 5 (l.map ndD)] (some 70))),(60,some (wRow (match k with|0=>[]|_+1=>S)))],fun k=>k≤1,fun k=>1 - k,0,Nat.zero_le _,?_,?_⟩
 ·refine⟨rfl,?_,?_⟩<;>repeat' (first|exact trivial|exact rfl|refine and_rfl ?_|refine and_two ?_ ?_)
 rintro(_|k) hk
 ·conv=>whnf
  refine known true rfl ?_
  conv=>whnf
  refine⟨by decide,_,rfl,?_⟩
  conv=>whnf
  refine⟨none,by kernel_rfl,?_⟩
  conv=>whnf
  refine⟨by rw[mk_size,size_d];show 5+nm.length≤_;omega,?_⟩
  conv=>whnf
  rw[catL]
  refine⟨by rw[mk_size,size_d,List.length_append];show 5+nm.length+1≤_;omega,?_⟩
  conv=>whnf
  rw[catR]
  refine⟨_,x_sjoin2 ps (by omega) (by omega),?_⟩
  conv=>whnf
  refine⟨by rw[mk_size,mk_size,List.length_append,List.length_append];show 5+nm.length+1+(comB ps).length≤_;omega,?_⟩
  conv=>whnf
  rw[mk_app]
  refine⟨by rw[mk_size,size_d,List.length_append,List.length_append,List.length_append];show 5+nm.length+1+(comB ps).length+2≤_;omega,?_⟩
  conv=>whnf
  rw[catR]
  refine mcall (T:=TM ppM) (φ:=[]) (gf:=false) (x_wsF (l:=l) (bs:=[]) ([102,117,110,99,32]++nm++[40]++comB ps++[41,32]) (by simp only[List.length_append,List.length_cons,List.length_nil];omega)) ?_
  conv=>whnf
  refine mcall (T:=TM ppM) (φ:=[]) (gf:=false) (hBk ([]++([102,117,110,99,32]++nm++[40]++comB ps++[41,32])) (by simp only[List.length_append,List.length_cons,List.length_nil];omega)) ?_
  conv=>whnf
  refine mcall (T:=TM ppM) (φ:=[]) (gf:=false) (x_wbU (l:=l) (bs:=[]++([102,117,110,99,32]++nm++[40]++comB ps++[41,32])++B) 10 (by simp only[List.length_append,List.length_cons,List.length_nil];omega)) ?_
  rw[show []++([102,117,110,99,32]++nm++[40]++comB ps++[41,32])++B++[10]=S from hS]
  conv=>whnf
  refine mcall (T:=TM ppM) (φ:=[]) (gf:=false) (x_wlen (l:=l) (bs:=S) (by omega)) ?_
  conv=>whnf
  refine known false (by simp;omega) ?_
  conv=>whnf
  refine⟨0+1,Nat.le_refl _,by decide,?_⟩
  refine⟨rfl,?_,?_⟩<;>repeat' (first|exact trivial|exact rfl|refine and_rfl ?_|refine and_two ?_ ?_)
 ·obtain rfl:k=0:=by omega
  conv=>whnf
  refine known false rfl ?_
  conv=>whnf
  refine⟨_,_,ot_string1 (l:=S) l169 Tryz.Builder_Extra_156 rfl rfl rfl rfl rfl rfl hne rfl,?_⟩
  conv=>whnf
  refine⟨_,x_tokens S (by omega),?_⟩
  conv=>whnf
  refine known false (by simp[h6]) ?_
  conv=>whnf
  refine⟨_,_,ot_string2 (l:=S) l169 Tryz.Builder_Extra_156 rfl rfl rfl rfl rfl rfl hne rfl,?_⟩
  (conv=>whnf)<;>rfl
theorem ex1_print:DCalls Tryz.prog 15 [exP1.V] (prV (exT1,0)):=
 x_printE exP1 ex_ok (by kernel_rfl) (q:=6) rfl (ex_block ⟨by decide,by decide⟩ ex1_b4 rfl rfl) (by kernel_rfl) (by decide) (by decide) (by kernel_rfl)
theorem ex3_print:DCalls Tryz.prog 15 [exP3.V] (prV (exT3,0)):=
 x_printE exP3 ex_ok3' (by kernel_rfl) (q:=6) rfl (ex_block ⟨by decide,by decide⟩ ex3_b4 rfl rfl) (by kernel_rfl) (by decide) (by decide) (by kernel_rfl)
theorem x_awakeP:AwakeS:=by
 have h1:=x_sparseP exS1 (by decide)
 rw[show parseP exS1=(exP1,0,0) by kernel_rfl] at h1
 have h2:=x_sparseP exS2 (by decide)
 rw[ex_parse2] at h2
 have h3:=x_sparseP exS3 (by decide)
 rw[show parseP exS3=(exP3,0,0) by kernel_rfl] at h3
 have h4:=x_sparseP exS4 (by decide)
 rw[ex_parse4] at h4
 have hc0:checkP exP1=0:=by kernel_rfl
 have hck:=x_check exP1 ex_ok
 rw[hc0] at hck
 have hdp:=x_sdepth exP1 ex_ok
 rw[if_pos hc0,show deepF exP1=5 by kernel_rfl] at hdp
 have f1:=x_sfind exP1 [109,97,105,110] (by decide)
 rw[show findN [109,97,105,110] exP1.funcs 0=0 by kernel_rfl] at f1
 have f2:=x_sfind exP1 [120] (by decide)
 rw[show findN [120] exP1.funcs 0= -1 by kernel_rfl] at f2
 have s1:=x_samePg exP1 exP3 ex_big
 rw[ex_same13] at s1
 have s2:=x_samePg exP1 exP1 ex_big
 rw[ex_same11] at s2
 refine sx Tryz.func12 (by kernel_rfl) ?_
 repeat((conv=>whnf);first|refine known false (pnlit (b:=true) rfl) ?_|refine known true (lit0 (b:=true) rfl) ?_|refine known false rfl ?_|refine known true rfl ?_|refine⟨_,h1,?_⟩|refine⟨_,h2,?_⟩|refine⟨_,h3,?_⟩|refine⟨_,h4,?_⟩|refine⟨_,ex1_print,?_⟩|refine⟨_,ex3_print,?_⟩|refine⟨_,hck,?_⟩|refine⟨_,hdp,?_⟩|refine⟨_,f1,?_⟩|refine⟨_,f2,?_⟩|refine⟨_,s1,?_⟩|refine⟨_,s2,?_⟩|refine⟨by decide,_,rfl,?_⟩|refine⟨none,by kernel_rfl,?_⟩)
 exact fin_boo (lit0 (a:=exT3) (b:=true) rfl)
end Go.Proofs.YtglndfgmlminpaaGreatDoor
