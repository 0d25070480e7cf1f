/- Texts joined by pack.py: XBuC XBdH XBdD XBdG XSxR XBdR -/
import Derived.Test.YtdccglkagfdooaaGreatDoorBz40
import Derived.Test.YtdccglkagfdooaaGreatDoorBz28
import Derived.Test.YtdccglkagfdooaaGreatDoorBz26
import Derived.Test.YtdccglkagfdooaaGreatDoorBz11
import Derived.Test.YtdccglkagfdooaaGreatDoorBz13
import Derived.ChangeArms
import Derived.SizedLaws
import Derived.DataReads
import Derived.WideShapes
set_option maxHeartbeats 16000000
set_option maxRecDepth 100000
namespace Go.Proofs.YtdccglkagfdooaaGreatDoor
open Go.RowKit
theorem at_gh {P:Program} {o:Oper} {E:Operand→V} {m m1:List (Option Bk)} {K:V→List (Option Bk)→Prop} (hg:GhM m m1) (h:∃v m',OpTr P o E m1 v m'∧v.k fun v=>forceM m' fun m'=>K v m'):∃v m',OpTr P o E m v m'∧v.k fun v=>forceM m' fun m'=>K v m':=by
 obtain⟨v,m',h1,h2⟩:=h
 exact⟨v,m',ot_pre hg h1,h2⟩
abbrev dfM (l:List Bs):List Bk:=[.box [.ow 1 0],.row 0 9 1 false (l.map strD)]
def addB (l:List Bs) (s:Bs) (d:Bool):List Bs:=if d then l++[s] else l
theorem x_badd (l:List Bs) (hl:l.length≤100) (s:Bs) (d:Bool):MCalls Tryz.prog 16 [bstr s,boo d,.bx 0 0] (dfM l) (.tu []) (dfM (addB l s d)):=by
 refine msxm [] Tryz.func16 (by kernel_rfl) (by kernel_rfl) ?_
 conv=>whnf
 rintro(_|_) h1
 ·rw[show addB l s d=l by unfold addB;rw[h1];rfl]
  conv=>whnf
  exact⟨rfl,rfl,rfl⟩
 ·rw[show addB l s d=l++[s] by unfold addB;rw[h1];rfl]
  conv=>whnf
  refine⟨by rw[List.length_map];show(l.length+1)*16≤_;omega,?_⟩
  conv=>whnf
  exact⟨rfl,by rw[show dfM (l++[s])=[.box [.ow 1 0],.row 0 9 1 false (l.map strD++[strD s])] by simp only[dfM,List.map_append,List.map_cons,List.map_nil]];rfl,rfl⟩
theorem addB_len (l:List Bs) (s:Bs) (d:Bool):(addB l s d).length≤l.length+1:=by
 unfold addB
 cases d<;>simp
def neS (a b:Bs):Bool:= !((mk a).toList==(mk b).toList)
def difF (a b:Mf):List Bs:=
 addB (addB (addB (addB (addB [] [78,97,109,101] (neS a.nm b.nm)) [77,101,109,111,114,121] (a.me !=b.me)) [83,116,101,112,115] (a.st !=b.st)) [79,112,115] (!(all2 strB a.ops b.ops))) [83,111,117,114,99,101] (neS a.src b.src)
def dfK:List (Nat×Bool):=[(16,false)]
theorem x_differ (a b:Mf) (ha:a.ops.length≤1000000):DCalls Tryz.prog 6 [a.V,b.V] (strsV (difF a b)):=by
 obtain⟨nm,me,st,ops,src⟩:=a
 obtain⟨nm',me',st',ops',src'⟩:=b
 dsimp only at ha
 unfold difF
 dsimp only
 have h1:=addB_len [] [78,97,109,101] (neS nm nm')
 have h2:=addB_len (addB [] [78,97,109,101] (neS nm nm')) [77,101,109,111,114,121] (me !=me')
 have h3:=addB_len (addB (addB [] [78,97,109,101] (neS nm nm')) [77,101,109,111,114,121] (me !=me')) [83,116,101,112,115] (st !=st')
 have h4:=addB_len (addB (addB (addB [] [78,97,109,101] (neS nm nm')) [77,101,109,111,114,121] (me !=me')) [83,116,101,112,115] (st !=st')) [79,112,115] (!(all2 strB ops ops'))
 simp only[List.length_nil] at h1
 refine sxm dfK Tryz.func6 (by kernel_rfl) ?_
 conv=>whnf
 refine at_gh (gh_nilR (n:=5) (d:=30) (i:=0) (E:=9) (sz:=1) rfl rfl rfl (by decide)) ?_
 refine mcallV (T:=TM dfK) (φ:=[]) (x_badd [] (by decide) [78,97,109,101] (neS nm nm')) ?_
 conv=>whnf
 refine mcallV (T:=TM dfK) (φ:=[]) (x_badd (addB [] [78,97,109,101] (neS nm nm')) (by omega) [77,101,109,111,114,121] (me !=me')) ?_
 conv=>whnf
 refine mcallV (T:=TM dfK) (φ:=[]) (x_badd (addB (addB [] [78,97,109,101] (neS nm nm')) [77,101,109,111,114,121] (me !=me')) (by omega) [83,116,101,112,115] (st !=st')) ?_
 conv=>whnf
 refine⟨_,x_equalS ops ops' (by omega),?_⟩
 conv=>whnf
 refine mcallV (T:=TM dfK) (φ:=[]) (x_badd (addB (addB (addB [] [78,97,109,101] (neS nm nm')) [77,101,109,111,114,121] (me !=me')) [83,116,101,112,115] (st !=st')) (by omega) [79,112,115] (!(all2 strB ops ops'))) ?_
 conv=>whnf
 refine mcallV (T:=TM dfK) (φ:=[]) (x_badd (addB (addB (addB (addB [] [78,97,109,101] (neS nm nm')) [77,101,109,111,114,121] (me !=me')) [83,116,101,112,115] (st !=st')) [79,112,115] (!(all2 strB ops ops'))) (by omega) [83,111,117,114,99,101] (neS src src')) ?_
 (conv=>whnf)<;>rfl
theorem x_bsame (a b:Mf) (ha:a.ops.length≤1000000):DCalls Tryz.prog 8 [a.V,b.V] (boo ((((difF a b).length:Nat):Int)==0)):=by
 refine sx Tryz.func8 (by kernel_rfl) ?_
 conv=>whnf
 refine⟨_,x_differ a b ha,?_⟩
 conv=>whnf
 exact fin_boo (by rw[List.length_map])
end Go.Proofs.YtdccglkagfdooaaGreatDoor
namespace Go.Proofs.YtdccglkagfdooaaGreatDoor
open Go.RowKit
abbrev exR:V:= .tu [.ag [.ow 0 0,.ow 1 0],int 0]
abbrev exRM:List Bk:=[.row 0 91 5 true [exF],.row 0 115 4 false exI]
theorem x_cprogram:MCalls Tryz.prog 26 [.ag [.sl false 5 (exP.nodes.map ndD),.sl false 3 (exP.funcs.map fcD)]] [] exR exRM:=by
 refine mcalls_of (sd:=fun vs=>vs.flatMap V.nm3) (tokM wrK) mixed Tryz.func26 (by kernel_rfl) (by kernel_rfl) ?_
 conv=>whnf
 refine mcallV (T:=TM wrK) (φ:=[100,101]) (ρ:=[]) (ln:=true) x_start ?_
 conv=>whnf
 refine known false rfl ?_
 conv=>whnf
 refine⟨[(3000002,3,0,0)],?_⟩
 conv=>whnf
 refine known true rfl ?_
 conv=>whnf
 refine⟨by decide,_,rfl,?_⟩
 conv=>whnf
 refine mcallC (T:=TM wrK) (ρ:=[100,101]) (gf:=false) (x_here [] (by decide)) ?_
 conv=>whnf
 refine mcallV (T:=TM wrK) (φ:=[]) (ρ:=[100,101]) (ln:=true) (gf:=false) x_function ?_
 conv=>whnf
 refine⟨_,x_exLocals,?_⟩
 conv=>whnf
 refine known false rfl ?_
 conv=>whnf
 refine⟨none,by kernel_rfl,?_⟩
 conv=>whnf
 refine mcallC (T:=TM wrK) (ρ:=[100,101]) (gf:=false) (x_here exI (by decide)) ?_
 conv=>whnf
 refine⟨by decide,?_⟩
 conv=>whnf
 refine known false rfl ?_
 conv=>whnf
 refine known false rfl ?_
 conv=>whnf
 refine⟨_,x_ccheck,?_⟩
 conv=>whnf
 refine known false rfl ?_
 conv=>whnf
 exact⟨rfl,rfl,rfl⟩
abbrev mEx:Mf:=⟨[102],10,100,[],sourA⟩
abbrev exS:Bs:=[5,0,1,102,0,2,49,48,0,3,49,48,48,0,0,0,26,102,117,110,99,32,109,97,105,110,40,101,41,32,123,32,114,101,116,117,114,110,32,101,59,32,125]
theorem ex_e:mfE mEx=0:=by kernel_rfl
theorem ex_enc:encP 0 mEx=(exS,0):=by kernel_rfl
theorem ex_unp:unpackP exS=([[102],[49,48],[49,48,48],[],sourA],0):=by kernel_rfl
theorem ex_mok:MfOk mEx:=⟨by decide,by decide,by decide⟩
theorem x_exCheck:DCalls Tryz.prog 15 [mEx.V] (int 0):=by
 have:=x_mcheck mEx ex_mok
 rwa [ex_e] at this
theorem x_exEncode:DCalls Tryz.prog 10 [mEx.V] (teH (exS,0)):=by
 have:=x_encode mEx 0 x_exCheck (by decide) (by decide) (by decide) (by decide)
 rwa [ex_enc] at this
theorem x_exDigest:DCalls Tryz.prog 14 [mEx.V] (teH (digP 0 mEx)):=
 x_digest mEx 0 (by rw[ex_enc];exact x_exEncode) (by rw[ex_enc];decide)
theorem ex_n1:pnum [49,48]=(10,0):=by kernel_rfl
theorem ex_n2:pnum [49,48,48]=(100,0):=by kernel_rfl
theorem x_ex10:DCalls Tryz.prog 23 [bstr [49,48]] (.tu [int 10,int 0]):=by
 have:=x_parse [49,48] ⟨by decide,by decide⟩ (by decide)
 rwa [ex_n1] at this
theorem x_ex100:DCalls Tryz.prog 23 [bstr [49,48,48]] (.tu [int 100,int 0]):=by
 have:=x_parse [49,48,48] ⟨by decide,by decide⟩ (by decide)
 rwa [ex_n2] at this
def dcM:List (Nat×Bool):=[(2000050,false)]
theorem x_exDecode:DCalls Tryz.prog 12 [bstr exS] (.tu [mEx.V,int 0]):=by
 have hU:=x_unpack exS (by decide)
 rw[ex_unp] at hU
 refine sxm dcM Tryz.func12 (by kernel_rfl) ?_
 conv=>whnf
 refine⟨_,hU,?_⟩
 conv=>whnf
 refine known false rfl ?_
 conv=>whnf
 refine known false rfl ?_
 conv=>whnf
 refine⟨none,by kernel_rfl,?_⟩
 conv=>whnf
 refine⟨by decide,_,rfl,?_⟩
 conv=>whnf
 refine⟨by decide,_,rfl,?_⟩
 conv=>whnf
 refine at_tr (ot_build2 (tokM dcM) rfl rfl rfl rfl rfl rfl rfl rfl ⟨rfl,rfl⟩ rfl rfl rfl rfl) ?_
 conv=>whnf
 refine at_rd (rd_ct_len rfl Tryz.underlying50 rfl rfl) ?_
 conv=>whnf
 refine⟨[(3000002,3,0,0)],?_⟩
 conv=>whnf
 refine known true rfl ?_
 conv=>whnf
 refine at_rd (rd_ct_index (tokM dcM) rfl rfl rfl rfl rfl rfl rfl rfl (by decide) (by decide)) ?_
 conv=>whnf
 refine at_rd (rd_ct_load (tokM dcM) rfl rfl rfl rfl (by decide) rfl rfl) ?_
 conv=>whnf
 refine⟨by decide,_,rfl,?_⟩
 conv=>whnf
 refine⟨_,x_ex10,?_⟩
 conv=>whnf
 refine known false rfl ?_
 conv=>whnf
 refine known true rfl ?_
 conv=>whnf
 refine at_rd (rd_ct_index (tokM dcM) rfl rfl rfl rfl rfl rfl rfl rfl (by decide) (by decide)) ?_
 conv=>whnf
 refine at_rd (rd_ct_load (tokM dcM) rfl rfl rfl rfl (by decide) rfl rfl) ?_
 conv=>whnf
 refine⟨by decide,_,rfl,?_⟩
 conv=>whnf
 refine⟨_,x_ex100,?_⟩
 conv=>whnf
 refine known false rfl ?_
 conv=>whnf
 refine known false rfl ?_
 conv=>whnf
 refine⟨by decide,_,rfl,?_⟩
 conv=>whnf
 refine known false (eqT (mk [])) ?_
 conv=>whnf
 refine⟨_,x_exCheck,?_⟩
 conv=>whnf
 refine known false rfl ?_
 (conv=>whnf)<;>rfl
theorem x_mopened (m:Mf) (hm:MfOk m) (he:mfE m=0):MCalls Tryz.prog 25 [mfL m] [] (.tu [.bx 0 0,int 0]) [paT m (parseP m.src).1]:=by
 have h1:=hm.nm
 have h2:=hm.src
 refine x_openedY m hm.ops _ (parseP m.src).1 _ (x_iname (mk m.nm) (by rw[mk_size];unfold maxLen;omega)) (x_bsource m hm.ops _ (parseP m.src).2.1 _ (staticP (parseP m.src).1).2.2.1 _ _ ?_ (x_sparseP m.src (by omega)) ?_ ?_) he
 ·exact ops_few _ _
 ·intro h
  have:=parse_s h
  exact x_staticCk _ this.1 this.2
 ·intro h
  have:=parse_s h
  exact x_staticOps _ this.1 this.2
def buM:List (Nat×Bool):=[(25,false),(26,false)]
theorem x_exBuild:DCalls Tryz.prog 13 [mEx.V] (.tu [exC,int 0]):=by
 have ho:=x_mopened mEx ex_mok ex_e
 rw[show(parseP mEx.src).1=exP by rw[ex_parse]] at ho
 refine sxm buM Tryz.func13 (by kernel_rfl) ?_
 conv=>whnf
 refine mcallV (T:=TM buM) (φ:=[15]) (ρ:=[]) (ln:=true) ho ?_
 conv=>whnf
 refine known false rfl ?_
 conv=>whnf
 refine mcallV (T:=TM buM) (φ:=[16,17]) (ρ:=[]) (ln:=true) x_cprogram ?_
 (conv=>whnf)<;>rfl
end Go.Proofs.YtdccglkagfdooaaGreatDoor
namespace Go.Proofs.YtdccglkagfdooaaGreatDoor
open Go.RowKit
theorem x_rsameG (x y:List Bs) (hx:x.length≤1000000):DCalls Tryz.prog 18 [strsV x,strsV y] (boo (all2 strB x y)):=by
 have hlx:(x.map strD).length=x.length:=List.length_map _
 have hly:(y.map strD).length=y.length:=List.length_map _
 refine sx Tryz.func18 (by kernel_rfl) ?_
 conv=>whnf
 rintro(_|_) h0
 rotate_left
 ·have h0:x.length≠y.length:=by rw[hlx,hly] at h0;simp at h0;omega
  rw[all2_len h0]
  (conv=>whnf)<;>rfl
 have h0:x.length=y.length:=by rw[hlx,hly] at h0;simp at h0;omega
 generalize hR:all2 strB x y=R
 conv=>whnf
 refine⟨[],Nat,fun k=>[(5,int k)],fun _=>[],fun k=>k≤x.length∧all2 strB (x.drop k) (y.drop k)=R,fun k=>x.length - k,0,⟨Nat.zero_le _,hR⟩,?_,?_⟩
 ·refine⟨rfl,?_,?_⟩<;>repeat' (first|exact trivial|exact rfl|refine and_rfl ?_|refine and_two ?_ ?_)
 rintro k ⟨hk,hd⟩
 conv=>whnf
 rintro(_|_) h2
 ·have h2:x.length≤k:=by rw[hlx] at h2;simp at h2;omega
  rw[List.drop_eq_nil_of_le h2,List.drop_eq_nil_of_le (by omega)] at hd
  rw[←hd]
  (conv=>whnf)<;>rfl
 have h2:k<x.length:=by rw[hlx] at h2;simp at h2;omega
 have h3:k<y.length:=by omega
 rw[all2_drop h2 h3] at hd
 conv=>whnf
 refine⟨none,by kernel_rfl,?_⟩
 conv=>whnf
 refine⟨by omega,_,get_map strD h2,?_⟩
 conv=>whnf
 refine⟨by omega,_,get_map strD h3,?_⟩
 conv=>whnf
 rintro(_|_) h4
 ·have e:strB x[k] y[k]=true:=by
   have h4:(!(sEq (mk x[k]) (mk y[k])))=false:=h4
   rw[sEq_mk] at h4
   simpa[strB] using h4
  rw[e,Bool.true_and] at hd
  conv=>whnf
  refine⟨k+1,⟨h2,hd⟩,by dsimp only;omega,?_⟩
  refine⟨rfl,?_,?_⟩<;>repeat' (first|exact trivial|exact rfl|refine and_rfl ?_|refine and_val (wrap_succ (by omega)) ?_|refine and_two ?_ ?_)
 ·have e:strB x[k] y[k]=false:=by
   have h4:(!(sEq (mk x[k]) (mk y[k])))=true:=h4
   rw[sEq_mk] at h4
   simpa[strB] using h4
  rw[e,Bool.false_and] at hd
  rw[←hd]
  (conv=>whnf)<;>rfl
theorem x_rdiffG (a b:Mf) (ha:a.ops.length≤1000000):DCalls Tryz.prog 7 [a.V,b.V] (strsV (difF a b)):=by
 obtain⟨nm,me,st,ops,src⟩:=a
 obtain⟨nm',me',st',ops',src'⟩:=b
 dsimp only at ha
 have hs:=x_rsameG ops ops' ha
 unfold difF
 dsimp only
 generalize all2 strB ops ops'=b4 at hs
 refine sx Tryz.func7 (by kernel_rfl) ?_
 conv=>whnf
 rintro(_|_) h1
 all_goals rw[show neS nm nm'=_ from h1]
 all_goals(conv=>whnf)
 all_goals(try(refine And.intro (by decide) ?_;(conv=>whnf)))
 all_goals(try(refine And.intro (by decide) ?_;(conv=>whnf)))
 all_goals rintro(_|_) h2
 all_goals rw[show(me !=me')=_ from h2]
 all_goals(conv=>whnf)
 all_goals(try(refine And.intro (by decide) ?_;(conv=>whnf)))
 all_goals(try(refine And.intro (by decide) ?_;(conv=>whnf)))
 all_goals rintro(_|_) h3
 all_goals rw[show(st !=st')=_ from h3]
 all_goals(conv=>whnf)
 all_goals(try(refine And.intro (by decide) ?_;(conv=>whnf)))
 all_goals(try(refine And.intro (by decide) ?_;(conv=>whnf)))
 all_goals refine Exists.intro _ (And.intro hs ?_)
 all_goals(conv=>whnf)
 all_goals rintro(_|_) h4
 all_goals rw[show(!b4)=_ from h4]
 all_goals(conv=>whnf)
 all_goals(try(refine And.intro (by decide) ?_;(conv=>whnf)))
 all_goals(try(refine And.intro (by decide) ?_;(conv=>whnf)))
 all_goals rintro(_|_) h5
 all_goals rw[show neS src src'=_ from h5]
 all_goals(conv=>whnf)
 all_goals(try(refine And.intro (by decide) ?_;(conv=>whnf)))
 all_goals(try(refine And.intro (by decide) ?_;(conv=>whnf)))
 all_goals rfl
theorem x_rsameG2 (a b:Mf) (ha:a.ops.length≤1000000):DCalls Tryz.prog 9 [a.V,b.V] (boo ((((difF a b).length:Nat):Int)==0)):=by
 refine sx Tryz.func9 (by kernel_rfl) ?_
 conv=>whnf
 refine⟨_,x_rdiffG a b ha,?_⟩
 conv=>whnf
 exact fin_boo (by rw[List.length_map])
end Go.Proofs.YtdccglkagfdooaaGreatDoor
namespace Go.Proofs.YtdccglkagfdooaaGreatDoor
open Go.RowKit
theorem x_example:DCalls Tryz.prog 11 [] mEx.V:=by
 refine sx Tryz.func11 (by kernel_rfl) ?_
 (conv=>whnf)<;>rfl
def smS (s:Bs):Bool:=decide (s.length≤100)
def smM (m:Mf):Bool:=decide (m.ops.length≤20)&&(decide (m.src.length≤1000)&&(decide (m.nm.length≤100)&&m.ops.all smS))
theorem x_bsmall (m:Mf) (hm:m.ops.length≤8796093022207):DCalls Tryz.prog 4 [m.V] (boo (smM m)):=by
 obtain⟨mn,me,st,ops,src⟩:=m
 dsimp only at hm
 have hol:(ops.map strD).length=ops.length:=List.length_map _
 refine sx Tryz.func4 (by kernel_rfl) ?_
 conv=>whnf
 rintro(_|_) h1
 rotate_left
 ·have h1:¬ops.length≤20:=by simp at h1;omega
  exact fin_boo (by simp[smM,h1])
 have h1:ops.length≤20:=by simp at h1;omega
 conv=>whnf
 rintro(_|_) h2
 rotate_left
 ·have h2:¬src.length≤1000:=by simp[mk_size] at h2;omega
  exact fin_boo (by simp[smM,h2])
 have h2:src.length≤1000:=by simp[mk_size] at h2;omega
 conv=>whnf
 rintro(_|_) h3
 rotate_left
 ·have h3:¬mn.length≤100:=by simp[mk_size] at h3;omega
  exact fin_boo (by simp[smM,h3])
 have h3:mn.length≤100:=by simp[mk_size] at h3;omega
 generalize hR:smM ⟨mn,me,st,ops,src⟩=R
 have hR:ops.all smS=R:=by rw[←hR];simp[smM,h1,h2,h3]
 conv=>whnf
 refine⟨[],Nat,fun j=>[(23,int j)],fun _=>[(1,some (.box [.cv (.string (mk mn)),.cv (.int .i64 me),.cv (.int .i64 st),.sl false 1 (ops.map strD),.cv (.string (mk src))]))],fun j=>j≤ops.length∧(ops.drop j).all smS=R,fun j=>ops.length - j,0,⟨Nat.zero_le _,hR⟩,?_,?_⟩
 ·refine⟨rfl,?_,?_⟩<;>repeat' (first|exact trivial|exact rfl|refine and_rfl ?_|refine and_two ?_ ?_)
 rintro j ⟨hj1,hj⟩
 conv=>whnf
 rintro(_|_) h7
 ·simp at h7
  rw[List.drop_eq_nil_of_le h7] at hj
  conv=>whnf
  exact fin_boo (by rw[←hj];rfl)
 have h7:j<ops.length:=by simp at h7;omega
 rw[List.drop_eq_getElem_cons h7,List.all_cons] at hj
 conv=>whnf
 refine⟨by omega,_,get_map strD h7,?_⟩
 conv=>whnf
 rintro(_|_) h8
 ·have h8:ops[j].length≤100:=by simp[mk_size] at h8;omega
  conv=>whnf
  refine⟨j+1,⟨h7,by rw[←hj];simp[smS,h8]⟩,by dsimp only;omega,?_⟩
  refine⟨rfl,?_,?_⟩<;>repeat' (first|exact trivial|exact rfl|refine and_rfl ?_|refine and_val (wrap_succ (by omega)) ?_|refine and_two ?_ ?_)
 ·have h8:¬ops[j].length≤100:=by simp[mk_size] at h8;omega
  conv=>whnf
  exact fin_boo (by rw[←hj];simp[smS,h8])
abbrev exB:Mf:=⟨[102],10,0,[],sourA⟩
theorem ex_b:mfE exB=2:=by kernel_rfl
theorem x_badCheck:DCalls Tryz.prog 15 [exB.V] (int 2):=by
 have:=x_mcheck exB ⟨by decide,by decide,by decide⟩
 rwa [ex_b] at this
theorem ex_dif:difF mEx exB=[[83,116,101,112,115]]:=by
 have h1:neS mEx.nm exB.nm=false:=by simp[neS]
 have h2:neS mEx.src exB.src=false:=by simp[neS]
 unfold difF
 rw[h1,h2]
 rfl
theorem ex_dig:(digP 0 mEx).1.length=16∧(digP 0 mEx).2=0:=⟨by kernel_rfl,by kernel_rfl⟩
theorem x_awake15:DCalls Tryz.prog 5 [] (boo true):=by
 have hdf:=x_differ mEx exB (by decide)
 rw[ex_dif] at hdf
 have hdg:=x_exDigest
 obtain⟨g1,g2⟩:=ex_dig
 generalize digP 0 mEx=q at hdg g1 g2
 obtain⟨q1,q2⟩:=q
 dsimp only at g1 g2
 subst g2
 refine sx Tryz.func5 (by kernel_rfl) ?_
 conv=>whnf
 refine⟨_,x_example,?_⟩
 conv=>whnf
 refine⟨_,x_exEncode,?_⟩
 conv=>whnf
 refine⟨_,x_exDecode,?_⟩
 conv=>whnf
 refine⟨_,x_example,?_⟩
 conv=>whnf
 refine⟨_,x_exBuild,?_⟩
 conv=>whnf
 refine⟨_,x_example,?_⟩
 conv=>whnf
 refine⟨_,hdg,?_⟩
 conv=>whnf
 refine⟨_,x_example,?_⟩
 conv=>whnf
 refine⟨none,by kernel_rfl,?_⟩
 conv=>whnf
 refine⟨_,x_example,?_⟩
 conv=>whnf
 refine⟨_,hdf,?_⟩
 conv=>whnf
 refine⟨none,by kernel_rfl,?_⟩
 repeat((conv=>whnf);first|refine known true rfl ?_|refine known true (by simp[mk_size,g1]) ?_|refine⟨_,x_example,?_⟩|refine⟨_,x_badCheck,?_⟩|refine⟨by decide,_,rfl,?_⟩)
 conv=>whnf
 exact fin_boo ((sEq_mk [83,116,101,112,115] [83,116,101,112,115]).trans rfl)
theorem difF_len (a b:Mf):(difF a b).length≤5:=by
 unfold difF
 have h1:=addB_len [] [78,97,109,101] (neS a.nm b.nm)
 have h2:=addB_len (addB [] [78,97,109,101] (neS a.nm b.nm)) [77,101,109,111,114,121] (a.me !=b.me)
 have h3:=addB_len (addB (addB [] [78,97,109,101] (neS a.nm b.nm)) [77,101,109,111,114,121] (a.me !=b.me)) [83,116,101,112,115] (a.st !=b.st)
 have h4:=addB_len (addB (addB (addB [] [78,97,109,101] (neS a.nm b.nm)) [77,101,109,111,114,121] (a.me !=b.me)) [83,116,101,112,115] (a.st !=b.st)) [79,112,115] (!(all2 strB a.ops b.ops))
 have h5:=addB_len (addB (addB (addB (addB [] [78,97,109,101] (neS a.nm b.nm)) [77,101,109,111,114,121] (a.me !=b.me)) [83,116,101,112,115] (a.st !=b.st)) [79,112,115] (!(all2 strB a.ops b.ops))) [83,111,117,114,99,101] (neS a.src b.src)
 simp only[List.length_nil] at h1
 omega
theorem x_ldiffers (a b:Mf) (ha:a.ops.length≤8796093022207) (hb:b.ops.length≤8796093022207):DCalls Tryz.prog 3 [a.V,b.V] (boo true):=by
 refine sx Tryz.func3 (by kernel_rfl) ?_
 conv=>whnf
 refine⟨_,x_bsmall a ha,?_⟩
 cases h1:smM a with
 |false=>
  repeat((conv=>whnf);refine known true rfl ?_)
  conv=>whnf
  refine⟨_,x_awake15,?_⟩
  (conv=>whnf)<;>rfl
 |true=>
 conv=>whnf
 refine known false rfl ?_
 conv=>whnf
 refine⟨_,x_bsmall b hb,?_⟩
 cases h2:smM b with
 |false=>
  repeat((conv=>whnf);refine known true rfl ?_)
  conv=>whnf
  refine⟨_,x_awake15,?_⟩
  (conv=>whnf)<;>rfl
 |true=>
 have ha2:a.ops.length≤1000000:=by simp[smM] at h1;omega
 generalize hd:difF a b=d
 have c1:=x_differ a b ha2
 have c2:=x_rdiffG a b ha2
 have c3:=x_bsame a b ha2
 have c4:=x_rsameG2 a b ha2
 rw[hd] at c1 c2 c3 c4
 have hdl:(d.map strD).length=d.length:=List.length_map _
 have h5:d.length≤5:=by rw[←hd];exact difF_len a b
 conv=>whnf
 refine known false rfl ?_
 conv=>whnf
 refine⟨none,by kernel_rfl,?_⟩
 conv=>whnf
 refine⟨_,c1,?_⟩
 conv=>whnf
 refine⟨_,c2,?_⟩
 conv=>whnf
 refine⟨none,by kernel_rfl,?_⟩
 conv=>whnf
 refine known false (by simp) ?_
 conv=>whnf
 refine⟨_,c3,?_⟩
 conv=>whnf
 refine⟨_,c4,?_⟩
 conv=>whnf
 refine known false (by simp) ?_
 conv=>whnf
 refine⟨[],Nat,fun k=>[(39,int k)],fun _=>[],fun k=>k≤d.length,fun k=>d.length - k,0,Nat.zero_le _,?_,?_⟩
 ·refine⟨rfl,?_,?_⟩<;>repeat' (first|exact trivial|exact rfl|refine and_rfl ?_|refine and_two ?_ ?_)
 rintro k hk
 conv=>whnf
 rintro(_|_) h3
 ·conv=>whnf
  refine⟨_,x_awake15,?_⟩
  (conv=>whnf)<;>rfl
 have h3:k<d.length:=by rw[hdl] at h3;simp at h3;omega
 conv=>whnf
 refine⟨none,by kernel_rfl,?_⟩
 conv=>whnf
 refine⟨by omega,_,get_map strD h3,?_⟩
 conv=>whnf
 refine⟨by omega,_,get_map strD h3,?_⟩
 conv=>whnf
 refine known false (eqT _) ?_
 conv=>whnf
 refine⟨k+1,h3,by dsimp only;omega,?_⟩
 refine⟨rfl,?_,?_⟩<;>repeat' (first|exact trivial|exact rfl|refine and_rfl ?_|refine and_val (wrap_succ (by omega)) ?_|refine and_two ?_ ?_)
end Go.Proofs.YtdccglkagfdooaaGreatDoor
namespace Go.Proofs.YtdccglkagfdooaaGreatDoor
open Go.RowKit
def szOf (T:Tab) (e:Nat):Nat:=match T e with|some i=>i.size|none=>0
def byOf (T:Tab) (e:Nat):Nat:=match T e with|some i=>i.bytes|none=>0
def DOkL (p:Nat→List D→Prop):List (Nat×Nat)→List D→Prop
 |[],ds=>ds=[]
 |f::fs,ds=>∃a b,ds=a++b∧p f.2 a∧DOkL p fs b
def DOk (T:Tab):Nat→Nat→List D→Prop
 |0,_,_=>False
 |n+1,ty,ds=>match T ty with
  |none=>False
  |some i=>match i.kd with
   | .int k=>∃z,ds=[.cv (.int k z)]∧(Lit.int k z).wf=true
   | .bool=>∃b,ds=[.cv (.bool b)]
   | .string=>∃s:ByteArray,ds=[.cv (.string s)]∧s.size≤reachBytes
   | .slice e=>∃xs,ds=[.sl (szOf T e) xs]∧xs.length*byOf T e≤reachBytes∧xs.length≤maxLen∧∀x∈xs,DOk T n e x
   | .struct fs=>DOkL (DOk T n) fs ds
   |_=>False
def contig (T:Tab):Nat→List (Nat×Nat)→Option Nat
 |o,[]=>some o
 |o,(off,ty)::fs=>if off=o then(match T ty with|some i=>contig T (o+i.size) fs|none=>none) else none
def okT (T:Tab):Nat→Nat→Bool
 |0,_=>false
 |n+1,ty=>match T ty with
  |none=>false
  |some i=>match i.kd with
   | .int _| .bool| .string=>i.size==1
   | .slice e=>i.size==1&&(szOf T e !=0&&okT T n e)
   | .struct fs=>contig T 0 fs==some i.size&&fs.all fun f=>okT T n f.2
   |_=>false
section
variable {P:Program} {T:Tab} {H:Type} {enc:TypeId×Value→H} {w:World} {spare:Nat→Bool} {held:Bool}
theorem TOk.cells (hT:TOk P T) {ty:Nat} {i:TI} (h:T ty=some i):P.cellsOf ty=i.size∧P.bytesOf ty=i.bytes:=by
 obtain⟨j,h1,h2,h3,_⟩:=hT.get ty i h
 simp[Program.cellsOf,Program.bytesOf,h1,h2,h3]
theorem TOk.szOf (hT:TOk P T) {ty:Nat} (h:szOf T ty≠0):P.cellsOf ty=szOf T ty∧P.bytesOf ty=byOf T ty:=by
 unfold Go.Proofs.YtdccglkagfdooaaGreatDoor.szOf at h⊢
 unfold byOf
 cases hi:T ty with
 |none=>rw[hi] at h;exact absurd rfl h
 |some i=>exact hT.cells hi
theorem get_of_cells? {a:Addr} {n:Nat} {cs:List Value} (h:w.cells? 0 a n=some cs):cs.length=n∧∀j u,cs[j]?=some u→w.cell? (a.add j)=some u:=by
 unfold World.cells? at h
 rw[if_pos (Nat.zero_le _)] at h
 have hl:=mapM_some_length h
 simp at hl
 refine⟨hl,fun j u hu=>?_⟩
 have hj:j<n:=by have:=lt_of_get hu;omega
 have:=mapM_some_get h j j (by simp[hj])
 rw[this,hu]
theorem weights_sl {e:TypeId} {d:DataW H}:∀{l:List (DataW H)},d∈l→∀n∈d.weights P e,n∈DataW.weightsAll P e l
 |x::l,hd,n,hn=>by
  simp only[DataW.weightsAll,List.mem_append]
  rcases List.mem_cons.1 hd with rfl|hd
  ·exact .inl hn
  ·exact .inr (weights_sl hd n hn)
theorem cells_one {v:Value} (h:v.oneCell'=true):v.cells= #[v]:=by
 cases v<;>simp_all [Value.oneCell',Value.cells]
theorem trod_read (hT:TOk P T):∀(n ty fuel:Nat) (cs:List Value) (x:DataW H×List MemPlace),okT T n ty=true→DataW.trod enc P w 0 spare held fuel ty cs=some x→(∀q∈x.1.weights P ty,q≤reachBytes)→
  ∃ds,DOk T n ty ds∧ds.length=cs.length∧∀(i:Nat) (d:D),ds[i]?=some d→∃u:Value,cs[i]?=some u∧RelD (fun b=>b<w.heap.size) w d u:=by
 intro n
 induction n with
 |zero=>intro ty fuel cs x h;cases h
 |succ n ih=>
  intro ty fuel cs x hok h hw
  simp only[okT] at hok
  cases hi:T ty with
  |none=>rw[hi] at hok;cases hok
  |some i=>
  rw[hi] at hok
  obtain⟨size,bytes,agg,zero,kd⟩:=i
  have one:∀{d:D} {u:Value},RelD (fun b=>b<w.heap.size) w d u→∀(i:Nat) (d':D),[d][i]?=some d'→∃u':Value,[u][i]?=some u'∧RelD (fun b=>b<w.heap.size) w d' u':=by
   intro d u hr i d' hd
   cases i with
   |zero=>simp at hd;subst hd;exact⟨u,rfl,hr⟩
   |succ i=>simp at hd
  cases kd with
  |int k=>
   obtain⟨z,rfl,_,hz⟩:=DataW.trod_int (hT.kd_int hi rfl) h
   exact⟨[.cv (.int k z)],by simp only[DOk,hi];exact⟨z,rfl,hz⟩,rfl,one (.cv _ rfl)⟩
  |bool=>
   obtain⟨b,rfl,_⟩:=DataW.trod_bool (hT.kd_bool hi rfl) h
   exact⟨[.cv (.bool b)],by simp only[DOk,hi];exact⟨b,rfl⟩,rfl,one (.cv _ rfl)⟩
  |string=>
   obtain⟨s,rfl,rfl,_⟩:=DataW.trod_string (hT.kd_string hi rfl) h
   have:=hw s.data.toList.length (by simp[DataW.weights])
   exact⟨[.cv (.string s)],by simp only[DOk,hi];exact⟨s,rfl,by simpa using this⟩,rfl,one (.cv _ rfl)⟩
  |slice e=>
   simp only[Bool.and_eq_true,bne_iff_ne,ne_eq] at hok
   obtain⟨_,hsz,hoke⟩:=hok
   obtain⟨hc,hb⟩:=hT.szOf hsz
   have hu:=hT.kd_slice hi rfl
   rcases DataW.trod_slice hu h with⟨rfl,rfl⟩|⟨a,len,cap,elems,rest,m,rfl,rfl,rfl,_,hlc,hcm,hlen,hel,_,_⟩
   ·exact⟨[.sl (szOf T e) []],by simp only[DOk,hi];exact⟨[],rfl,by simp,by simp,by simp⟩,rfl,one (.nil _ _ _)⟩
   ·rw[hc] at hel
    have helem:∀i,i<len→∃(ds:List D) (us:List Value),w.cells? 0 (a.add (i*szOf T e)) (szOf T e)=some us∧DOk T n e ds∧ds.length=us.length∧∀(j:Nat) (d:D),ds[j]?=some d→∃u:Value,us[j]?=some u∧RelD (fun b=>b<w.heap.size) w d u:=by
     intro i hlt
     have h1:=hel i hlt
     have hi':i<elems.length:=by omega
     rw[List.getElem?_eq_getElem hi',Option.bind_eq_some_iff] at h1
     obtain⟨us,h2,h3⟩:=h1
     obtain⟨ds,h4,h5,h6⟩:=ih e m us _ hoke h3 fun q hq=>hw q (by
      simp only[DataW.weights,hu,List.mem_cons,List.mem_append]
      exact .inr (.inl (weights_sl (List.mem_map.2 ⟨_,List.getElem_mem hi',rfl⟩) q hq)))
     exact⟨ds,us,h2,h4,h5,h6⟩
    let dsF:Nat→List D:=fun i=>if hlt:i<len then Classical.choose (helem i hlt) else []
    have hF:∀i,i<len→∃us:List Value,w.cells? 0 (a.add (i*szOf T e)) (szOf T e)=some us∧DOk T n e (dsF i)∧(dsF i).length=us.length∧∀(j:Nat) (d:D),(dsF i)[j]?=some d→∃u:Value,us[j]?=some u∧RelD (fun b=>b<w.heap.size) w d u:=by
     intro i hlt
     have:=Classical.choose_spec (helem i hlt)
     simp only[dsF,hlt,dif_pos]
     exact this
    refine⟨[.sl (szOf T e) ((List.range len).map dsF)],?_,rfl,one ?_⟩
    ·simp only[DOk,hi]
     refine⟨_,rfl,?_,by simp;omega,fun x hx=>?_⟩
     ·have:=hw ((elems.length+rest.length)*P.bytesOf e) (by simp[DataW.weights,hu])
      rw[hb] at this
      simp only[List.length_map,List.length_range]
      refine Nat.le_trans (Nat.mul_le_mul_right _ ?_) this
      omega
     ·obtain⟨i,hi',rfl⟩:=List.mem_map.1 hx
      exact(hF i (by simpa using hi')).choose_spec.2.1
    ·by_cases h0:len=0
     ·subst h0;exact .nil _ _ _
     have hcell:∀(i j:Nat) (d:D),i<len→(dsF i)[j]?=some d→∃u:Value,w.cell? ((a.add (i*szOf T e)).add j)=some u∧RelD (fun b=>b<w.heap.size) w d u:=by
      intro i j d hlt hd
      obtain⟨us,h1,h2,h3,h4⟩:=hF i hlt
      obtain⟨u,h5,h6⟩:=h4 j d hd
      exact⟨u,(get_of_cells? h1).2 j u h5,h6⟩
     have hlenF:∀i,i<len→(dsF i).length=szOf T e:=fun i hlt=>by
      obtain⟨us,h1,h2,h3,h4⟩:=hF i hlt
      rw[h3,(get_of_cells? h1).1]
     obtain⟨b,o,spot⟩:=a
     obtain⟨u0,h1,_⟩:=hcell 0 0 _ (by omega) (List.getElem?_eq_getElem (by rw[hlenF 0 (by omega)];omega))
     have hspot:spot=none:=by
      have:=World.cell?_spot h1
      unfold Addr.add at this
      split at this<;>split at this<;>simp_all
     subst hspot
     have hlt:=World.block_lt_of_cell? w _ h1
     simp only[add_mk] at hlt hcell
     have hl:((List.range len).map dsF).length=len:=by simp
     have hget:∀(i j:Nat) (d:D),(((List.range len).map dsF)[i]?.bind fun x=>x[j]?)=some d→i<len∧(dsF i)[j]?=some d:=by
      intro i j d hd
      rcases Nat.lt_or_ge i len with h'|h'
      ·simp[h'] at hd;exact⟨h',hd⟩
      ·simp[h'] at hd
     suffices hs:RelD (fun b=>b<w.heap.size) w (.sl (szOf T e) ((List.range len).map dsF)) (.slice (some ⟨b,o,none⟩) ((List.range len).map dsF).length cap) by rw[hl] at hs;exact hs
     refine RelD.sl (S:=fun b=>b<w.heap.size) _ _ b o cap (fun i j=>(w.cell? ⟨b,o+i*szOf T e+j,none⟩).getD undef) hlt (fun x hx=>?_) (by rw[hl];exact hlc) (fun i j d hd=>?_) (fun i j d hd=>?_)
     ·obtain⟨i,hi',rfl⟩:=List.mem_map.1 hx
      exact hlenF i (by simpa using hi')
     ·obtain⟨h2,h3⟩:=hget i j d hd
      obtain⟨u,h4,_⟩:=hcell i j d h2 h3
      rw[h4];rfl
     ·obtain⟨h2,h3⟩:=hget i j d hd
      obtain⟨u,h4,h5⟩:=hcell i j d h2 h3
      rw[h4];exact h5
  |struct fs=>
   simp only[Bool.and_eq_true,beq_iff_eq,List.all_eq_true] at hok
   obtain⟨hcon,hall⟩:=hok
   obtain⟨gs,hu,hgs⟩:=hT.kd_struct hi rfl
   obtain⟨xs,m,rfl,rfl,hl,hxl,hf⟩:=DataW.trod_struct hu h
   rw[(hT.cells hi).1] at hl
   replace hl:cs.length=size:=hl
   have key:∀(l:List (Nat×Nat)) (k o:Nat),fs.drop k=l→contig T o l=some size→∃ds,DOkL (DOk T n) l ds∧o+ds.length=size∧∀(i:Nat) (d:D),ds[i]?=some d→∃u:Value,cs[o+i]?=some u∧RelD (fun b=>b<w.heap.size) w d u:=by
    intro l
    induction l with
    |nil=>
     intro k o _ hc
     simp only[contig,Option.some.injEq] at hc
     exact⟨[],rfl,by simp[hc],by simp⟩
    |cons f l ihl=>
     intro k o hk hc
     obtain⟨off,fty⟩:=f
     simp only[contig] at hc
     split at hc
     rotate_left
     ·cases hc
     rename_i hoff
     subst hoff
     cases hft:T fty with
     |none=>rw[hft] at hc;cases hc
     |some fi=>
     rw[hft] at hc
     have hkf:fs[k]?=some (off,fty):=by
      have:=congrArg (fun l=>l[0]?) hk
      simpa using this
     have hg:∃g,gs[k]?=some g∧g.offset=off∧g.type=fty:=by
      rw[←hgs,List.getElem?_map,Option.map_eq_some_iff] at hkf
      obtain⟨g,hg,e⟩:=hkf
      simp only[Prod.mk.injEq] at e
      exact⟨g,by simpa using hg,e.1,e.2⟩
     obtain⟨g,hg,rfl,rfl⟩:=hg
     have h1:=hf k g hg
     have hlt:k<xs.length:=by
      have:k<gs.size:=(Array.getElem?_eq_some_iff.1 hg).1
      omega
     rw[List.getElem?_eq_getElem hlt,(hT.cells hft).1] at h1
     obtain⟨da,h2,h3,h4⟩:=ih g.type m _ _ (hall _ (List.mem_of_getElem? hkf)) h1 fun q hq=>hw q (by
      simp only[DataW.weights,hu]
      refine DataW.weights_mem_each (j:=k) (t:=g.type) (d:=xs[k].1) ?_ ?_ q hq
      ·rw[List.getElem?_map];simp[hg]
      ·simp[hlt])
     obtain⟨db,h5,h6,h7⟩:=ihl (k+1) (g.offset+fi.size) (by
      have:=congrArg (List.drop 1) hk
      simpa[List.drop_drop,Nat.add_comm] using this) hc
     have hla:da.length=fi.size:=by
      rw[h3,List.length_take,List.length_drop];omega
     refine⟨da++db,⟨da,db,rfl,h2,h5⟩,by simp;omega,fun i d hd=>?_⟩
     rw[List.getElem?_append] at hd
     split at hd
     ·rename_i hlt'
      obtain⟨u,h8,h9⟩:=h4 i d hd
      rw[List.getElem?_take,if_pos (by omega),List.getElem?_drop] at h8
      exact⟨u,h8,h9⟩
     ·rename_i hge
      obtain⟨u,h8,h9⟩:=h7 _ d hd
      refine⟨u,?_,h9⟩
      rw[←h8];congr 1;omega
   obtain⟨ds,h1,h2,h3⟩:=key fs 0 0 rfl hcon
   exact⟨ds,by simp only[DOk,hi];exact h1,by omega,fun i d hd=>by simpa using h3 i d hd⟩
  |_=>cases hok
def dV:List D→V
 |[d]=>d.v true
 |_=> .un
def vOf (T:Tab) (ty:Nat) (ds:List D):V:=
 match T ty with
 |some i=>if i.agg then .ag (ds.map (D.v true)) else dV ds
 |none=> .un
open Go.WideShapes in
theorem read_arg (hT:TOk P T) {n ty:Nat} (hok:okT T n ty=true) {r:Reach} {b0:Nat} {v:Value} {d:DataW H} {ps:List MemPlace} (hval:Value.okWide P w r b0 ty v)
  (h:DataW.Trod enc P w 0 spare held ty v d ps) (hw:∀q∈d.weights P ty,q≤reachBytes):∃ds,DOk T n ty ds∧RelV (fun _=>none) (fun _ b=>b<w.heap.size) w (vOf T ty ds) v:=by
 obtain⟨fuel,h⟩:=h
 obtain⟨ds,h1,h2,h3⟩:=trod_read hT n ty fuel _ _ hok h hw
 refine⟨ds,h1,?_⟩
 cases n with
 |zero=>cases hok
 |succ n=>
 simp only[okT] at hok
 unfold vOf
 cases hi:T ty with
 |none=>rw[hi] at hok;cases hok
 |some i=>
 rw[hi] at hok
 have hagg:=(hT.ok hi).1
 have one:i.agg=false→v.cells= #[v]→RelV (fun _=>none) (fun _ b=>b<w.heap.size) w (if i.agg then .ag (ds.map (D.v true)) else dV ds) v:=by
  intro e1 e2
  rw[e2] at h2 h3
  rw[e1]
  match ds,h2,h3 with
  |[d],_,h3=>
   obtain⟨u,hu,hr⟩:=h3 0 d rfl
   simp at hu;subst hu
   exact .ofD (S:=fun _ b=>b<w.heap.size) hr
  |[],_,_=>exact .un _
  |_::_::_,_,_=>exact .un _
 have many:∀us:Array Value,i.agg=true→v= .agg us→RelV (fun _=>none) (fun _ b=>b<w.heap.size) w (if i.agg then .ag (ds.map (D.v true)) else dV ds) v:=by
  rintro us e1 rfl
  rw[e1]
  simp only[Value.cells,Array.length_toList] at h2 h3
  refine .ag _ us (by simpa using h2) fun j c hc=>?_
  rw[List.getElem?_map,Option.map_eq_some_iff] at hc
  obtain⟨d,hd,rfl⟩:=hc
  obtain⟨u,hu,hr⟩:=h3 j d hd
  rw[getD_of_get hu]
  exact .ofD (S:=fun _ b=>b<w.heap.size) hr
 obtain⟨size,bytes,agg,zero,kd⟩:=i
 cases kd with
 |int k=>obtain⟨z,rfl⟩:=okWide_int (hT.kd_int hi rfl) hval;exact one hagg rfl
 |bool=>obtain⟨z,rfl⟩:=okWide_bool (hT.kd_bool hi rfl) hval;exact one hagg rfl
 |string=>obtain⟨z,rfl⟩:=okWide_string (hT.kd_string hi rfl) hval;exact one hagg rfl
 |slice e=>obtain⟨a,l,c,rfl⟩:=okWide_slice (hT.kd_slice hi rfl) hval;exact one hagg rfl
 |struct fs=>
  obtain⟨gs,hu,_⟩:=hT.kd_struct hi rfl
  obtain⟨us,rfl,_⟩:=okWide_struct hu hval
  exact many us hagg rfl
 |_=>cases hok
theorem weights_cons {t:TypeId} {ts:List TypeId} {d:DataW H} {ds:List (DataW H)} (h:∀q∈DataW.weightsEach P (t::ts) (d::ds),q≤reachBytes):
  (∀q∈d.weights P t,q≤reachBytes)∧∀q∈DataW.weightsEach P ts ds,q≤reachBytes:=by
 simp only[DataW.weightsEach,List.mem_append] at h
 exact⟨fun q hq=>h q (.inl hq),fun q hq=>h q (.inr hq)⟩
theorem relL_nil {N:Names} {S:Sets}:RelL N S w [] []:=⟨rfl,by simp⟩
theorem relL_cons {N:Names} {S:Sets} {v:V} {u:Value} {vs:List V} {us:List Value} (h:RelV N S w v u) (hl:RelL N S w vs us):RelL N S w (v::vs) (u::us):=by
 refine⟨by simp[hl.1],fun i x hx=>?_⟩
 cases i with
 |zero=>simp at hx;subst hx;simpa using h
 |succ i=>simpa using hl.2 i x (by simpa using hx)
end
end Go.Proofs.YtdccglkagfdooaaGreatDoor
namespace Go.Proofs.YtdccglkagfdooaaGreatDoor
open Go.RowKit
theorem map_ofC {α:Type} {f:α→List D} {p:α→Prop}:∀{xs:List (List D)},(∀x∈xs,∃a,x=f a∧p a)→∃l:List α,xs=l.map f∧∀a∈l,p a
 |[],_=>⟨[],rfl,by simp⟩
 |x::xs,h=>by
  obtain⟨a,rfl,ha⟩:=h x (by simp)
  obtain⟨l,rfl,hl⟩:=map_ofC (xs:=xs) fun y hy=>h y (by simp[hy])
  exact⟨a::l,rfl,by simpa using⟨ha,hl⟩⟩
theorem len_reach {n b:Nat} (hb:16≤b) (h:n*b≤reachBytes):n≤8796093022207:=by
 have h2:reachBytes=140737488351232:=rfl
 rw[h2] at h
 have:n*16≤n*b:=Nat.mul_le_mul_left n hb
 omega
theorem read_strs {n:Nat} {ds:List D} (h:DOk TT (n+2) 22 ds):∃ks:List Bs,ds=[.sl 1 (ks.map strD)]∧ks.length≤8796093022207:=by
 obtain⟨xs,rfl,h1,_,h2⟩:=h
 obtain⟨l,rfl,hok⟩:=map_ofC (f:=strD) (p:=fun _:Bs=>True) fun x hx=>by
  obtain⟨s,rfl,hs⟩:=h2 x hx
  exact⟨s.data.toList,rfl,trivial⟩
 refine⟨l,rfl,?_⟩
 rw[List.length_map] at h1
 exact len_reach (b:=16) (Nat.le_refl _) h1
theorem read_mf {ds:List D} (h:DOk TT 6 24 ds):∃m:Mf,vOf TT 24 ds=m.V∧m.ops.length≤8796093022207:=by
 obtain⟨_,_,rfl,⟨a,rfl,_⟩,_,_,rfl,⟨k,rfl,hk⟩,_,_,rfl,⟨v,rfl,hv⟩,_,_,rfl,ho,_,_,rfl,⟨s,rfl,_⟩,rfl⟩:=h
 obtain⟨ks,rfl,k1⟩:=read_strs ho
 exact⟨⟨a.data.toList,k,v,ks,s.data.toList⟩,rfl,k1⟩
theorem d_bdiffers (ds0 ds1:List D) (h0:DOk TT 6 24 ds0) (h1:DOk TT 6 24 ds1):
  DCalls Tryz.prog 3 [vOf TT 24 ds0,vOf TT 24 ds1] (boo true):=by
 obtain⟨a,e0,ha⟩:=read_mf h0
 obtain⟨b,e1,hb⟩:=read_mf h1
 rw[e0,e1]
 exact x_ldiffers a b ha hb
end Go.Proofs.YtdccglkagfdooaaGreatDoor
