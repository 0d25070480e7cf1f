/- Texts joined by pack.py: XRgF -/
import Derived.Test.YtjmabkpcahmnpaaGreatDoorRz26
set_option maxHeartbeats 16000000
set_option maxRecDepth 100000
namespace Go.Proofs.YtjmabkpcahmnpaaGreatDoor
open Go.RowKit
def pubL (l:List Vr) (m:Mf):Bool:=match l.getLast? with
 |some v=> !v.rt&&((((difF v.m m).length:Nat):Int)==0)
 |none=>false
def pubP (F:Fns) (now:Int) (m:Mf) (nw ck:Int) (d:Bs×Int):(Int×Int)×Fns×Int:=
 if ck≠0 then((0,ck),F,now)
 else if nw<0∨nw>1073741824 then((0,2),F,now)
 else if nw<now then((0,11),F,now)
 else if pubL ((getB F m.nm).getD []) m=true then(((((getB F m.nm).getD []).length:Nat),0),F,nw)
 else if((getB F m.nm).isNone=true∧32≤F.length)∨32≤((getB F m.nm).getD []).length then((0,3),F,now)
 else if d.2≠0 then((0,d.2),F,now)
 else(((((getB F m.nm).getD []).length:Nat)+1,0),putB F m.nm ((getB F m.nm).getD []++[⟨m,(((getB F m.nm).getD []).length:Nat)+1,d.1,nw,false⟩]),nw)
theorem x_pubK (F:Fns) (now:Int) (m:Mf) (hm:m.ops.length≤1000000) (nw ck:Int) (dg:Bs) (de:Int) (l:List Vr) (hg:getB F m.nm=some l) (hC:DCalls Tryz.prog 21 [m.V] (int ck)) (hD:ck=0→DCalls Tryz.prog 23 [m.V] (.tu [bstr dg,int de]))
  (k:Nat) (hk:l.length=k+1) (h32:l.length≤32) (ho:∀v∈l,v.m.ops.length≤1000000) (r:(Int×Int)×Fns×Int) (hr:pubP F now m nw ck (dg,de)=r):
  MCalls Tryz.prog 10 [.bx 0 0,mfL m,int nw] (rgM F now) (.tu [int r.1.1,int r.1.2]) (rgM r.2.1 r.2.2):=by
 have hll:(l.map vrD).length=l.length:=List.length_map _
 have hkl:k<l.length:=by omega
 have hgk:(l.map vrD)[((k:Nat):Int).toNat]?=some (vrD l[k]):=get_map vrD hkl
 have ho:=ho l[k] (List.getElem_mem hkl)
 have hw:IntKind.i64.wrap (((l.length:Nat):Int)+1)=((l.length:Nat):Int)+1:=wrap_in (by omega)
 have hsame:putB F m.nm l=F:=putB_same hg
 have hlast:pubL l m=(!l[k].rt&&((((difF l[k].m m).length:Nat):Int)==0)):=by
  unfold pubL
  rw[List.getLast?_eq_getElem?,show l.length - 1=k by omega,List.getElem?_eq_getElem hkl]
 simp only[pubP,hg,Option.getD_some,Option.isNone_some,Bool.false_eq_true,false_and,false_or,hlast] at hr
 obtain⟨nm,me,st,ops,src⟩:=m
 dsimp only at hm hg hsame
 have hg':getE (vM F) (mk nm)=some (vsC l):=by rw[getE_vM,hg];rfl
 refine msxg pubM Tryz.func10 (by kernel_rfl) (by kernel_rfl) ?_
 conv=>whnf
 refine at_gh (gh_openE (n:=123) (d:=140) (outs:=[]) rfl hg' rfl) ?_
 refine mcallV (T:=TM pubM) (φ:=[]) (ρ:=[122,123,140]) (gf:=false) (x_rgmadeO F nm l now) ?_ (ln:=true)
 conv=>whnf
 refine known false rfl ?_
 conv=>whnf
 refine⟨_,hC,?_⟩
 conv=>whnf
 rintro(_|_) h1
 rotate_left
 ·have h1:ck≠0:=by simpa using h1
  obtain rfl:((0,ck),F,now)=r:=by rw[←hr,if_pos h1]
  conv=>whnf
  refine⟨_,GhM.gh (close_v (n:=123) (d:=140) (l':=l) hg rfl rfl),?_⟩
  rw[hsame]
  exact⟨rfl,rfl,rfl⟩
 have h1:ck=0:=by simpa using h1
 have hD:=hD h1
 rw[if_neg (by simp[h1])] at hr
 conv=>whnf
 refine⟨none,by kernel_rfl,?_⟩
 conv=>whnf
 refine at_rd (look_v1 hg rfl rfl rfl rfl) ?_
 by_cases h2:nw<0∨nw>1073741824
 ·obtain rfl:((0,2),F,now)=r:=by rw[←hr,if_pos h2]
  by_cases h3:nw<0
  ·conv=>whnf
   refine known true (by simp;omega) ?_
   conv=>whnf
   refine⟨_,GhM.gh (close_v (n:=123) (d:=140) (l':=l) hg rfl rfl),?_⟩
   rw[hsame]
   exact⟨rfl,rfl,rfl⟩
  ·conv=>whnf
   refine known false (by simp;omega) ?_
   conv=>whnf
   refine known true (by simp;omega) ?_
   conv=>whnf
   refine⟨_,GhM.gh (close_v (n:=123) (d:=140) (l':=l) hg rfl rfl),?_⟩
   rw[hsame]
   exact⟨rfl,rfl,rfl⟩
 rw[if_neg h2] at hr
 conv=>whnf
 refine known false (by simp;omega) ?_
 conv=>whnf
 refine known false (by simp;omega) ?_
 by_cases h3:nw<now
 ·obtain rfl:((0,11),F,now)=r:=by rw[←hr,if_pos h3]
  conv=>whnf
  refine known true (by simp;omega) ?_
  conv=>whnf
  refine⟨_,GhM.gh (close_v (n:=123) (d:=140) (l':=l) hg rfl rfl),?_⟩
  rw[hsame]
  exact⟨rfl,rfl,rfl⟩
 rw[if_neg h3] at hr
 conv=>whnf
 refine known false (by simp;omega) ?_
 conv=>whnf
 refine⟨none,by kernel_rfl,?_⟩
 conv=>whnf
 refine known true (by rw[hll];simp;omega) ?_
 conv=>whnf
 rw[hll,show IntKind.i64.wrap (((l.length:Nat):Int) - 1)=(k:Int) by rw[wrap_in (by omega)];omega]
 refine⟨Int.natCast_nonneg k,by rw[Int.toNat_natCast];exact hkl,?_⟩
 conv=>whnf
 refine⟨_,hgk,?_⟩
 conv=>whnf
 rintro(_|_) g
 ·have g:l[k].rt=true:=by simpa using g
  rw[g,if_neg (by simp)] at hr
  conv=>whnf
  refine known false (by simp) ?_
  by_cases h4:32≤l.length
  ·obtain rfl:((0,3),F,now)=r:=by rw[←hr,if_pos h4]
   conv=>whnf
   refine known true (by simp;omega) ?_
   conv=>whnf
   refine⟨_,GhM.gh (close_v (n:=123) (d:=140) (l':=l) hg rfl rfl),?_⟩
   rw[hsame]
   exact⟨rfl,rfl,rfl⟩
  ·rw[if_neg h4] at hr
   conv=>whnf
   refine known false (by simp;omega) ?_
   conv=>whnf
   refine⟨_,hD,?_⟩
   conv=>whnf
   rintro(_|_) h5
   rotate_left
   ·have h5:de≠0:=by simpa using h5
    obtain rfl:((0,de),F,now)=r:=by rw[←hr,if_pos h5]
    conv=>whnf
    refine⟨_,GhM.gh (close_v (n:=123) (d:=140) (l':=l) hg rfl rfl),?_⟩
    rw[hsame]
    exact⟨rfl,rfl,rfl⟩
   have h5:de=0:=by simpa using h5
   obtain rfl:((((l.length:Nat):Int)+1,(0:Int)),putB F nm (l++[⟨⟨nm,me,st,ops,src⟩,(l.length:Nat)+1,dg,nw,false⟩]),nw)=r:=by rw[←hr,if_neg (by simp[h5])]
   conv=>whnf
   refine⟨some planP21,by kernel_rfl,?_⟩
   conv=>whnf
   refine⟨_,x_own ⟨nm,me,st,ops,src⟩ hm,?_⟩
   refine⟨.bx 122 0,fun m2 K2 hK=>hK,?_⟩
   conv=>whnf
   refine⟨.bx 4 0,fun m2 K2 hK=>hK,?_⟩
   repeat' ((conv=>whnf);first
    |exact trivial
    |refine And.intro (show(List.length (l.map vrD)+1)*112≤140737488355328 by rw[hll];omega) ?_
    |refine at_tr (upd_v1 (n:=123) (d:=140) (l:=l++[⟨⟨nm,me,st,ops,src⟩,(l.length:Nat)+1,dg,nw,false⟩]) rfl rfl rfl rfl rfl rfl (by rw[hw,List.map_append];rfl)) ?_
    |refine Exists.intro _ (And.intro (Gh.refl _) ?_)
    |exact⟨rfl,rfl,by rw[hw];rfl⟩
    |refine And.intro ?_ ?_)
 ·have g:l[k].rt=false:=by simpa using g
  rw[g,Bool.not_false,Bool.true_and] at hr
  conv=>whnf
  rw[hll,show IntKind.i64.wrap (((l.length:Nat):Int) - 1)=(k:Int) by rw[wrap_in (by omega)];omega]
  refine⟨Int.natCast_nonneg k,by rw[Int.toNat_natCast];exact hkl,?_⟩
  conv=>whnf
  refine⟨_,hgk,?_⟩
  conv=>whnf
  refine⟨_,x_bsame l[k].m ⟨nm,me,st,ops,src⟩ ho,?_⟩
  by_cases h6:((((difF l[k].m ⟨nm,me,st,ops,src⟩).length:Nat):Int)==0)=true
  ·obtain rfl:((((l.length:Nat):Int),(0:Int)),F,nw)=r:=by rw[←hr,if_pos h6]
   conv=>whnf
   refine known true h6 ?_
   conv=>whnf
   refine⟨_,GhM.gh (close_v (n:=123) (d:=140) (l':=l) hg rfl rfl),?_⟩
   rw[hsame]
   exact⟨rfl,rfl,rfl⟩
  ·rw[if_neg h6] at hr
   have h6:((((difF l[k].m ⟨nm,me,st,ops,src⟩).length:Nat):Int)==0)=false:=by simpa using h6
   conv=>whnf
   refine known false h6 ?_
   conv=>whnf
   refine known false rfl ?_
   by_cases h4:32≤l.length
   ·obtain rfl:((0,3),F,now)=r:=by rw[←hr,if_pos h4]
    conv=>whnf
    refine known true (by simp;omega) ?_
    conv=>whnf
    refine⟨_,GhM.gh (close_v (n:=123) (d:=140) (l':=l) hg rfl rfl),?_⟩
    rw[hsame]
    exact⟨rfl,rfl,rfl⟩
   ·rw[if_neg h4] at hr
    conv=>whnf
    refine known false (by simp;omega) ?_
    conv=>whnf
    refine⟨_,hD,?_⟩
    conv=>whnf
    rintro(_|_) h5
    rotate_left
    ·have h5:de≠0:=by simpa using h5
     obtain rfl:((0,de),F,now)=r:=by rw[←hr,if_pos h5]
     conv=>whnf
     refine⟨_,GhM.gh (close_v (n:=123) (d:=140) (l':=l) hg rfl rfl),?_⟩
     rw[hsame]
     exact⟨rfl,rfl,rfl⟩
    have h5:de=0:=by simpa using h5
    obtain rfl:((((l.length:Nat):Int)+1,(0:Int)),putB F nm (l++[⟨⟨nm,me,st,ops,src⟩,(l.length:Nat)+1,dg,nw,false⟩]),nw)=r:=by rw[←hr,if_neg (by simp[h5])]
    conv=>whnf
    refine⟨some planP21,by kernel_rfl,?_⟩
    conv=>whnf
    refine⟨_,x_own ⟨nm,me,st,ops,src⟩ hm,?_⟩
    refine⟨.bx 122 0,fun m2 K2 hK=>hK,?_⟩
    conv=>whnf
    refine⟨.bx 4 0,fun m2 K2 hK=>hK,?_⟩
    repeat' ((conv=>whnf);first
     |exact trivial
     |refine And.intro (show(List.length (l.map vrD)+1)*112≤140737488355328 by rw[hll];omega) ?_
     |refine at_tr (upd_v1 (n:=123) (d:=140) (l:=l++[⟨⟨nm,me,st,ops,src⟩,(l.length:Nat)+1,dg,nw,false⟩]) rfl rfl rfl rfl rfl rfl (by rw[hw,List.map_append];rfl)) ?_
     |refine Exists.intro _ (And.intro (Gh.refl _) ?_)
     |exact⟨rfl,rfl,by rw[hw];rfl⟩
     |refine And.intro ?_ ?_)
end Go.Proofs.YtjmabkpcahmnpaaGreatDoor
