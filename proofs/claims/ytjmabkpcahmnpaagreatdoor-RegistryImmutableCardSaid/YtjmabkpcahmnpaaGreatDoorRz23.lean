/- Texts joined by pack.py: XBuB XSyDb XBuC XSxCl XSxCg XRgA XRgB XRgS XRgC XSxZ -/
import Derived.Test.YtjmabkpcahmnpaaGreatDoorRz22
import Derived.Test.YtjmabkpcahmnpaaGreatDoorRz14
import Derived.Test.YtjmabkpcahmnpaaGreatDoorRz11
import Derived.Shelf.Strings.Builder1
import Derived.Shelf.Strings.Builder2
import Derived.Shelf.Strings.OnBuilder
import Derived.Shelf.Small.Utf8
import Derived.Shelf.Small.Bits
import Derived.Shelf.Small.Strs
import Derived.Shelf.Strings.BuilderF
import Derived.Shelf.Utf8.RuneCount
import Derived.Shelf.Strconv.Atoi
import Derived.Shelf.Strconv.Itoa0
import Derived.Shelf.Strconv.Itoa1
import Derived.Shelf.LaysM
import Derived.Shelf.Strconv.Itoa2
import Derived.Shelf.Strconv.Itoa3
import Derived.Shelf.Strconv.AtoiErrFast
import Derived.Shelf.Strconv.ParseIntEmpty
import Derived.Shelf.Strconv.AtoiFail
import Derived.Shelf.Strconv.Clone
import Derived.Shelf.Strconv.SyntaxError
import Derived.Shelf.LaysC
import Derived.Shelf.Strconv.ToError
import Derived.Shelf.Strconv.Lower
import Derived.Shelf.Strconv.ParseUint10
import Derived.Shelf.Strconv.ParseUint10Empty
import Derived.Shelf.Strconv.ParseUint10Any
import Derived.Shelf.Strconv.ParseInt10
import Derived.Shelf.Strconv.AtoiLong
import Derived.Shelf.Strconv.AtoiInnerAll
import Derived.Shelf.Strconv.RangeError
import Derived.Shelf.Strconv.ToErrorRange
import Derived.Shelf.Strconv.AtoiAll
import Derived.Shelf.Strings.Search1
import Derived.Shelf.Strings.Search2
import Derived.Shelf.Strings.Search3
import Derived.Shelf.Strings.Count
import Derived.Shelf.Strings.Shaped
import Derived.Shelf.Sort.Plain
import Derived.Shelf.Strings.Prefix
import Derived.Shelf.Strings.Split
import Derived.Shelf.Strings.Runes
import Derived.Shelf.Strings.RuneCount
import Derived.Shelf.Bits.Mul64
import Derived.Shelf.Strings.Repeat
import Derived.Shelf.Slices.Turned
import Derived.Shelf.Slices.Equal
import Derived.Ground.Names2Prog
import Derived.Shelf.Slices.Clone
import Derived.Shelf.Slices.CompactS
import Derived.Shelf.Slices.Cells
import Derived.Shelf.Slices.In.SortNone
import Derived.Ground.SlgnProg
import Derived.Shelf.SlicesE.Clone
import Derived.Test.YtjmabkpcahmnpaaGreatDoorChecked
import Derived.Test.YtjmabkpcahmnpaaGreatDoorRz12
import Derived.OrdersIn
import Derived.OwnWalkIn
import Derived.RangeFuncCalls
import Derived.RangeFuncNested
set_option maxHeartbeats 16000000
set_option maxRecDepth 100000
namespace Go.Proofs.YtjmabkpcahmnpaaGreatDoor
open Go.RowKit
def srcE (m:Mf) (e ce:Int) (os:List Bs):Int:=if e≠0 then e else if ce≠0 then ce else if os.all fun x=>m.ops.contains x then 0 else 12
abbrev nilV:V:= .cv (.slice none 0 0)
def srcB (m:Mf) (p:Pg) (r:Int):Bk:=if r=0 then paB m (.sl true 5 (p.nodes.map ndD)) (.sl true 3 (p.funcs.map fcD)) else paB m nilV nilV
theorem x_bsource (m:Mf) (hm:m.ops.length≤1000000) (p:Pg) (at_ e ca ce:Int) (os:List Bs) (hol:os.length≤1000000) (hP:DCalls Tryz.prog 65 [bstr m.src] (.tu [p.V,int at_,int e])) (hC:e=0→DCalls Tryz.prog 66 [p.V] (.tu [int ca,int ce]))
  (hO:e=0→DCalls Tryz.prog 67 [p.V] (strsV os)):MCalls Tryz.prog 46 [.bx 0 0] [paB m nilV nilV] (int (srcE m e ce os)) [srcB m p (srcE m e ce os)]:=by
 obtain⟨nm,me,st,ops,src⟩:=m
 dsimp only at hm hP
 have hll:(os.map strD).length=os.length:=List.length_map _
 refine msxm [] Tryz.func46 (by kernel_rfl) (by kernel_rfl) ?_
 conv=>whnf
 refine⟨_,hP,?_⟩
 conv=>whnf
 rintro(_|_) h1
 rotate_left
 ·have h1:e≠0:=by simpa using h1
  have e1:srcE ⟨nm,me,st,ops,src⟩ e ce os=e:=by unfold srcE;rw[if_pos h1]
  rw[e1,show srcB ⟨nm,me,st,ops,src⟩ p e=paB ⟨nm,me,st,ops,src⟩ nilV nilV from if_neg h1]
  conv=>whnf
  exact⟨rfl,rfl,rfl⟩
 have h1:e=0:=by simpa using h1
 conv=>whnf
 refine⟨_,hC h1,?_⟩
 conv=>whnf
 rintro(_|_) h2
 rotate_left
 ·have h2:ce≠0:=by simpa using h2
  have e1:srcE ⟨nm,me,st,ops,src⟩ e ce os=ce:=by unfold srcE;rw[if_neg (by simp[h1]),if_pos h2]
  rw[e1,show srcB ⟨nm,me,st,ops,src⟩ p ce=paB ⟨nm,me,st,ops,src⟩ nilV nilV from if_neg h2]
  conv=>whnf
  exact⟨rfl,rfl,rfl⟩
 have h2:ce=0:=by simpa using h2
 have e0:srcE ⟨nm,me,st,ops,src⟩ e ce os=if os.all fun x=>ops.contains x then 0 else 12:=by unfold srcE;rw[if_neg (by simp[h1]),if_neg (by simp[h2])]
 conv=>whnf
 refine⟨_,hO h1,?_⟩
 conv=>whnf
 rw[hll]
 refine⟨[],Nat,fun k=>[(34,int k)],fun _=>[],fun k=>k≤os.length∧(os.drop k).all (fun x=>ops.contains x)=os.all (fun x=>ops.contains x),fun k=>os.length - k,0,⟨Nat.zero_le _,rfl⟩,?_,?_⟩
 ·refine⟨rfl,?_,?_⟩<;>repeat' (first|exact trivial|exact rfl|refine and_rfl ?_|refine and_two ?_ ?_)
 rintro k ⟨b0,b1⟩
 have b0:k≤os.length:=b0
 conv=>whnf
 rintro(_|_) h3
 ·have h3:os.length≤k:=by simp at h3;omega
  rw[List.drop_eq_nil_of_le h3] at b1
  have b1:os.all (fun x=>ops.contains x)=true:=b1.symm
  rw[b1,if_pos rfl] at e0
  rw[e0]
  conv=>whnf
  exact⟨rfl,rfl,rfl⟩
 have h3:k<os.length:=by simp at h3;omega
 rw[List.drop_eq_getElem_cons h3,List.all_cons] at b1
 conv=>whnf
 refine⟨by omega,_,get_map strD h3,?_⟩
 conv=>whnf
 refine⟨_,x_containsS ops os[k] (by omega),?_⟩
 conv=>whnf
 rintro(_|_) h4
 ·have h4:ops.contains os[k]=true:=by simpa using h4
  rw[h4,Bool.true_and] at b1
  conv=>whnf
  refine⟨k+1,⟨h3,b1⟩,by dsimp only;omega,?_⟩
  refine⟨rfl,?_,?_⟩<;>repeat' (first|exact trivial|exact rfl|refine and_rfl ?_|refine and_val (wrap_succ (by omega)) ?_|refine and_two ?_ ?_)
 ·have h4:ops.contains os[k]=false:=by simpa using h4
  rw[h4,Bool.false_and] at b1
  rw[←b1,if_neg (by simp)] at e0
  rw[e0,show srcB ⟨nm,me,st,ops,src⟩ p 12=paB ⟨nm,me,st,ops,src⟩ nilV nilV from if_neg (by decide)]
  conv=>whnf
  exact⟨rfl,rfl,rfl⟩
def bundleE (m:Mf) (nb:Bool) (r:Int):Int:=if nb=false then 4 else if numbersE m≠0 then numbersE m else if opsF m.ops (m.ops.length+1) 0≠0 then opsF m.ops (m.ops.length+1) 0 else r
abbrev mfL (m:Mf):V:= .ag [bstr m.nm,int m.me,int m.st,.sl false 1 (m.ops.map strD),bstr m.src]
abbrev paT (m:Mf) (p:Pg):Bk:= .box [bstr m.nm,int m.me,int m.st,.sl false 1 (m.ops.map strD),bstr m.src,.sl true 5 (p.nodes.map ndD),.sl true 3 (p.funcs.map fcD)]
def opM:List (Nat×Bool):=[(44,false),(45,false),(46,false),(2000099,false)]
theorem x_opened (m:Mf) (hm:m.ops.length≤1000000) (nb:Bool) (p:Pg) (r:Int) (hN:DCalls Tryz.prog 43 [bstr m.nm] (boo nb)) (hS:MCalls Tryz.prog 46 [.bx 0 0] [paB m nilV nilV] (int r) [srcB m p r]) (he:bundleE m nb r≠0):
  MCalls Tryz.prog 31 [mfL m] [] (.tu [.cv (.pointer none),int (bundleE m nb r)]) []:=by
 obtain⟨nm,me,st,ops,src⟩:=m
 dsimp only at hm hN
 refine msxm opM Tryz.func31 (by kernel_rfl) (by kernel_rfl) ?_
 conv=>whnf
 refine⟨_,hN,?_⟩
 cases nb with
 |false=>
  conv=>whnf
  refine known true rfl ?_
  conv=>whnf
  exact⟨rfl,rfl,rfl⟩
 |true=>
 conv=>whnf
 refine known false rfl ?_
 conv=>whnf
 refine at_tr (ot_build3 (tokM opM) rfl rfl rfl rfl rfl rfl rfl rfl rfl ⟨rfl,rfl,rfl⟩ rfl rfl rfl rfl) ?_
 conv=>whnf
 refine at_rd (rd_ct_len rfl Tryz.underlying99 rfl rfl) ?_
 conv=>whnf
 refine⟨[(3000002,4,0,0)],?_⟩
 conv=>whnf
 refine known true rfl ?_
 conv=>whnf
 refine at_rd (rd_ct_index (tokM opM) rfl rfl rfl rfl rfl rfl rfl rfl (by decide) (by decide)) ?_
 conv=>whnf
 refine at_rd (rd_ct_load (tokM opM) rfl rfl rfl rfl (by decide) rfl rfl) ?_
 conv=>whnf
 refine mcall (T:=TM opM) (φ:=[]) (x_bnumbers ⟨nm,me,st,ops,src⟩ nilV nilV ⟨[],.inl rfl⟩ ⟨[],.inl rfl⟩) ?_
 conv=>whnf
 rintro(_|_) h1
 rotate_left
 ·have h1:numbersE ⟨nm,me,st,ops,src⟩≠0:=by simpa using h1
  rw[show bundleE ⟨nm,me,st,ops,src⟩ true r=numbersE ⟨nm,me,st,ops,src⟩ by unfold bundleE;rw[if_neg (by simp),if_pos h1]]
  conv=>whnf
  exact⟨rfl,rfl,rfl⟩
 have h1:numbersE ⟨nm,me,st,ops,src⟩=0:=by simpa using h1
 conv=>whnf
 refine known true rfl ?_
 conv=>whnf
 refine at_rd (rd_ct_index (tokM opM) rfl rfl rfl rfl rfl rfl rfl rfl (by decide) (by decide)) ?_
 conv=>whnf
 refine at_rd (rd_ct_load (tokM opM) rfl rfl rfl rfl (by decide) rfl rfl) ?_
 conv=>whnf
 refine mcall (T:=TM opM) (φ:=[]) (x_bops ⟨nm,me,st,ops,src⟩ hm) ?_
 conv=>whnf
 rintro(_|_) h2
 rotate_left
 ·have h2:opsF ops (ops.length+1) 0≠0:=by simpa using h2
  rw[show bundleE ⟨nm,me,st,ops,src⟩ true r=opsF ops (ops.length+1) 0 by unfold bundleE;rw[if_neg (by simp),if_neg (by simp[h1]),if_pos h2]]
  conv=>whnf
  exact⟨rfl,rfl,rfl⟩
 have h2:opsF ops (ops.length+1) 0=0:=by simpa using h2
 conv=>whnf
 refine known true rfl ?_
 conv=>whnf
 refine at_rd (rd_ct_index (tokM opM) rfl rfl rfl rfl rfl rfl rfl rfl (by decide) (by decide)) ?_
 conv=>whnf
 refine at_rd (rd_ct_load (tokM opM) rfl rfl rfl rfl (by decide) rfl rfl) ?_
 have e:bundleE ⟨nm,me,st,ops,src⟩ true r=r:=by unfold bundleE;rw[if_neg (by simp),if_neg (by simp[h1]),if_neg (by simp[h2])]
 rw[e] at he⊢
 rw[show srcB ⟨nm,me,st,ops,src⟩ p r=paB ⟨nm,me,st,ops,src⟩ nilV nilV from if_neg he] at hS
 conv=>whnf
 refine mcall (T:=TM opM) (φ:=[]) hS ?_
 conv=>whnf
 refine known true (by simpa using he) ?_
 conv=>whnf
 exact⟨rfl,rfl,rfl⟩
theorem x_openedY (m:Mf) (hm:m.ops.length≤1000000) (nb:Bool) (p:Pg) (r:Int) (hN:DCalls Tryz.prog 43 [bstr m.nm] (boo nb)) (hS:MCalls Tryz.prog 46 [.bx 0 0] [paB m nilV nilV] (int r) [srcB m p r]) (he:bundleE m nb r=0):
  MCalls Tryz.prog 31 [mfL m] [] (.tu [.bx 0 0,int 0]) [paT m p]:=by
 obtain⟨nm,me,st,ops,src⟩:=m
 dsimp only at hm hN
 obtain⟨rfl,h1,h2,rfl⟩:nb=true∧numbersE ⟨nm,me,st,ops,src⟩=0∧opsF ops (ops.length+1) 0=0∧r=0:=by
  unfold bundleE at he
  split at he
  ·cases he
  split at he
  ·contradiction
  split at he
  ·contradiction
  rename_i a1 a2 a3
  exact⟨by simpa using a1,by simpa using a2,by simpa using a3,he⟩
 rw[show srcB ⟨nm,me,st,ops,src⟩ p 0=paB ⟨nm,me,st,ops,src⟩ (.sl true 5 (p.nodes.map ndD)) (.sl true 3 (p.funcs.map fcD)) from if_pos rfl] at hS
 refine msxm opM Tryz.func31 (by kernel_rfl) (by kernel_rfl) ?_
 conv=>whnf
 refine⟨_,hN,?_⟩
 conv=>whnf
 refine known false rfl ?_
 conv=>whnf
 refine at_tr (ot_build3 (tokM opM) rfl rfl rfl rfl rfl rfl rfl rfl rfl ⟨rfl,rfl,rfl⟩ rfl rfl rfl rfl) ?_
 conv=>whnf
 refine at_rd (rd_ct_len rfl Tryz.underlying99 rfl rfl) ?_
 conv=>whnf
 refine⟨[(3000002,4,0,0)],?_⟩
 conv=>whnf
 refine known true rfl ?_
 conv=>whnf
 refine at_rd (rd_ct_index (tokM opM) rfl rfl rfl rfl rfl rfl rfl rfl (by decide) (by decide)) ?_
 conv=>whnf
 refine at_rd (rd_ct_load (tokM opM) rfl rfl rfl rfl (by decide) rfl rfl) ?_
 conv=>whnf
 refine mcall (T:=TM opM) (φ:=[]) (x_bnumbers ⟨nm,me,st,ops,src⟩ nilV nilV ⟨[],.inl rfl⟩ ⟨[],.inl rfl⟩) ?_
 conv=>whnf
 refine known false (by simp[h1]) ?_
 conv=>whnf
 refine known true rfl ?_
 conv=>whnf
 refine at_rd (rd_ct_index (tokM opM) rfl rfl rfl rfl rfl rfl rfl rfl (by decide) (by decide)) ?_
 conv=>whnf
 refine at_rd (rd_ct_load (tokM opM) rfl rfl rfl rfl (by decide) rfl rfl) ?_
 conv=>whnf
 refine mcall (T:=TM opM) (φ:=[]) (x_bops ⟨nm,me,st,ops,src⟩ hm) ?_
 conv=>whnf
 refine known false (by simp[h2]) ?_
 conv=>whnf
 refine known true rfl ?_
 conv=>whnf
 refine at_rd (rd_ct_index (tokM opM) rfl rfl rfl rfl rfl rfl rfl rfl (by decide) (by decide)) ?_
 conv=>whnf
 refine at_rd (rd_ct_load (tokM opM) rfl rfl rfl rfl (by decide) rfl rfl) ?_
 conv=>whnf
 refine mcall (T:=TM opM) (φ:=[]) hS ?_
 conv=>whnf
 refine known false rfl ?_
 conv=>whnf
 refine known false rfl ?_
 conv=>whnf
 exact⟨rfl,rfl,rfl⟩
theorem x_bcheck (m:Mf) (hm:m.ops.length≤1000000) (nb:Bool) (p:Pg) (r:Int) (hN:DCalls Tryz.prog 43 [bstr m.nm] (boo nb)) (hS:MCalls Tryz.prog 46 [.bx 0 0] [paB m nilV nilV] (int r) [srcB m p r]):
  DCalls Tryz.prog 21 [m.V] (int (bundleE m nb r)):=by
 by_cases he:bundleE m nb r=0
 ·have h:=x_openedY m hm nb p r hN hS he
  rw[he]
  refine sxm [(31,false)] Tryz.func21 (by kernel_rfl) ?_
  conv=>whnf
  refine mcall (T:=TT) (φ:=[6]) h ?_
  (conv=>whnf)<;>rfl
 ·have h:=x_opened m hm nb p r hN hS he
  refine sxm [(31,false)] Tryz.func21 (by kernel_rfl) ?_
  conv=>whnf
  refine mcall (T:=TT) (φ:=[]) h ?_
  (conv=>whnf)<;>rfl
end Go.Proofs.YtjmabkpcahmnpaaGreatDoor
namespace Go.Proofs.YtjmabkpcahmnpaaGreatDoor
open Go.RowKit
def all2 {α:Type} (p:α→α→Bool):List α→List α→Bool
 |[],[]=>true
 |a::l,b::r=>p a b&&all2 p l r
 |_,_=>false
theorem all2_len {α:Type} {p:α→α→Bool}:∀{l r:List α},l.length≠r.length→all2 p l r=false
 |[],[],h=>absurd rfl h
 |[],_::_,_=>rfl
 |_::_,[],_=>rfl
 |a::l,b::r,h=>by
  unfold all2
  rw[all2_len (by simpa using h),Bool.and_false]
theorem all2_drop {α:Type} {p:α→α→Bool} {l r:List α} {k:Nat} (h1:k<l.length) (h2:k<r.length):all2 p (l.drop k) (r.drop k)=(p l[k] r[k]&&all2 p (l.drop (k+1)) (r.drop (k+1))):=by
 rw[List.drop_eq_getElem_cons h1,List.drop_eq_getElem_cons h2];rfl
theorem all2_eq {α:Type} {p:α→α→Bool} (hp:∀a b,p a b=true↔a=b):∀{l r:List α},all2 p l r=true↔l=r
 |[],[]=>by simp[all2]
 |[],_::_=>by simp[all2]
 |_::_,[]=>by simp[all2]
 |a::l,b::r=>by
  unfold all2
  rw[Bool.and_eq_true,hp,all2_eq hp]
  simp
def strB (a b:Bs):Bool:=a==b
theorem strB_eq (a b:Bs):strB a b=true↔a=b:=by unfold strB;simp
theorem x_equalS (a b:List Bs) (ha:a.length≤8796093022207):DCalls Tryz.prog 48 [.sl true 1 (a.map strD),.sl true 1 (b.map strD)] (boo (all2 strB a b)):=by
 have hla:(a.map strD).length=a.length:=List.length_map _
 have hlb:(b.map strD).length=b.length:=List.length_map _
 refine sx Tryz.func48 (by kernel_rfl) ?_
 conv=>whnf
 rintro(_|_) h0
 rotate_left
 ·have h0:a.length≠b.length:=by rw[hla,hlb] at h0;simp at h0;omega
  rw[all2_len h0]
  (conv=>whnf)<;>rfl
 have h0:a.length=b.length:=by rw[hla,hlb] at h0;simp at h0;omega
 conv=>whnf
 refine⟨[],Nat,fun k=>[(13,int k)],fun _=>[],fun k=>k≤a.length∧all2 strB (a.drop k) (b.drop k)=all2 strB a b,fun k=>a.length - k,0,⟨Nat.zero_le _,rfl⟩,?_,?_⟩
 ·refine⟨rfl,?_,?_⟩<;>repeat' (first|exact trivial|exact rfl|refine and_rfl ?_|refine and_two ?_ ?_)
 rintro k ⟨hk1,hk⟩
 conv=>whnf
 rintro(_|_) h1
 ·have h1:a.length≤k:=by rw[←hla];simpa using h1
  rw[List.drop_eq_nil_of_le h1,List.drop_eq_nil_of_le (by omega),show all2 strB [] []=true from rfl] at hk
  rw[←hk]
  (conv=>whnf)<;>rfl
 have h1:k<a.length:=by rw[←hla];simpa using h1
 have h2:k<b.length:=by omega
 rw[all2_drop h1 h2] at hk
 conv=>whnf
 refine⟨none,by kernel_rfl,?_⟩
 conv=>whnf
 refine⟨by omega,_,get_map strD h1,?_⟩
 conv=>whnf
 refine⟨by omega,_,get_map strD h2,?_⟩
 conv=>whnf
 rw[show((mk a[k]).toList==(mk b[k]).toList)=strB a[k] b[k] from sEq_mk _ _]
 rintro(_|_) h3
 ·have h3:strB a[k] b[k]=true:=by simpa using h3
  rw[h3,Bool.true_and] at hk
  conv=>whnf
  refine⟨k+1,⟨h1,hk⟩,by dsimp only;omega,?_⟩
  refine⟨rfl,?_,?_⟩<;>repeat' (first|exact trivial|exact rfl|refine and_rfl ?_|refine and_val (wrap_succ (by omega)) ?_|refine and_two ?_ ?_)
 ·have h3:strB a[k] b[k]=false:=by simpa using h3
  rw[h3,Bool.false_and] at hk
  rw[←hk]
  (conv=>whnf)<;>rfl
end Go.Proofs.YtjmabkpcahmnpaaGreatDoor
namespace Go.Proofs.YtjmabkpcahmnpaaGreatDoor
open Go.RowKit
theorem at_gh {P:Program} {o:Oper} {E:Operand→V} {m m1:List (Option Bk)} {K:V→List (Option Bk)→Prop} (hg:GhM m m1) (h:∃v m',OpTr P o E m1 v m'∧v.k fun v=>forceM m' fun m'=>K v m'):∃v m',OpTr P o E m v m'∧v.k fun v=>forceM m' fun m'=>K v m':=by
 obtain⟨v,m',h1,h2⟩:=h
 exact⟨v,m',ot_pre hg h1,h2⟩
abbrev dfM (l:List Bs):List Bk:=[.box [.ow 1 0],.row 0 9 1 false (l.map strD)]
def addB (l:List Bs) (s:Bs) (d:Bool):List Bs:=if d then l++[s] else l
theorem x_badd (l:List Bs) (hl:l.length≤100) (s:Bs) (d:Bool):MCalls Tryz.prog 47 [bstr s,boo d,.bx 0 0] (dfM l) (.tu []) (dfM (addB l s d)):=by
 refine msxm [] Tryz.func47 (by kernel_rfl) (by kernel_rfl) ?_
 conv=>whnf
 rintro(_|_) h1
 ·rw[show addB l s d=l by unfold addB;rw[h1];rfl]
  conv=>whnf
  exact⟨rfl,rfl,rfl⟩
 ·rw[show addB l s d=l++[s] by unfold addB;rw[h1];rfl]
  conv=>whnf
  refine⟨by rw[List.length_map];show(l.length+1)*16≤_;omega,?_⟩
  conv=>whnf
  exact⟨rfl,by rw[show dfM (l++[s])=[.box [.ow 1 0],.row 0 9 1 false (l.map strD++[strD s])] by simp only[dfM,List.map_append,List.map_cons,List.map_nil]];rfl,rfl⟩
theorem addB_len (l:List Bs) (s:Bs) (d:Bool):(addB l s d).length≤l.length+1:=by
 unfold addB
 cases d<;>simp
def neS (a b:Bs):Bool:= !((mk a).toList==(mk b).toList)
def difF (a b:Mf):List Bs:=
 addB (addB (addB (addB (addB [] [78,97,109,101] (neS a.nm b.nm)) [77,101,109,111,114,121] (a.me !=b.me)) [83,116,101,112,115] (a.st !=b.st)) [79,112,115] (!(all2 strB a.ops b.ops))) [83,111,117,114,99,101] (neS a.src b.src)
def dfK:List (Nat×Bool):=[(47,false)]
theorem x_differ (a b:Mf) (ha:a.ops.length≤1000000):DCalls Tryz.prog 32 [a.V,b.V] (strsV (difF a b)):=by
 obtain⟨nm,me,st,ops,src⟩:=a
 obtain⟨nm',me',st',ops',src'⟩:=b
 dsimp only at ha
 unfold difF
 dsimp only
 have h1:=addB_len [] [78,97,109,101] (neS nm nm')
 have h2:=addB_len (addB [] [78,97,109,101] (neS nm nm')) [77,101,109,111,114,121] (me !=me')
 have h3:=addB_len (addB (addB [] [78,97,109,101] (neS nm nm')) [77,101,109,111,114,121] (me !=me')) [83,116,101,112,115] (st !=st')
 have h4:=addB_len (addB (addB (addB [] [78,97,109,101] (neS nm nm')) [77,101,109,111,114,121] (me !=me')) [83,116,101,112,115] (st !=st')) [79,112,115] (!(all2 strB ops ops'))
 simp only[List.length_nil] at h1
 refine sxm dfK Tryz.func32 (by kernel_rfl) ?_
 conv=>whnf
 refine at_gh (gh_nilR (n:=5) (d:=30) (i:=0) (E:=9) (sz:=1) rfl rfl rfl (by decide)) ?_
 refine mcallV (T:=TM dfK) (φ:=[]) (x_badd [] (by decide) [78,97,109,101] (neS nm nm')) ?_
 conv=>whnf
 refine mcallV (T:=TM dfK) (φ:=[]) (x_badd (addB [] [78,97,109,101] (neS nm nm')) (by omega) [77,101,109,111,114,121] (me !=me')) ?_
 conv=>whnf
 refine mcallV (T:=TM dfK) (φ:=[]) (x_badd (addB (addB [] [78,97,109,101] (neS nm nm')) [77,101,109,111,114,121] (me !=me')) (by omega) [83,116,101,112,115] (st !=st')) ?_
 conv=>whnf
 refine⟨_,x_equalS ops ops' (by omega),?_⟩
 conv=>whnf
 refine mcallV (T:=TM dfK) (φ:=[]) (x_badd (addB (addB (addB [] [78,97,109,101] (neS nm nm')) [77,101,109,111,114,121] (me !=me')) [83,116,101,112,115] (st !=st')) (by omega) [79,112,115] (!(all2 strB ops ops'))) ?_
 conv=>whnf
 refine mcallV (T:=TM dfK) (φ:=[]) (x_badd (addB (addB (addB (addB [] [78,97,109,101] (neS nm nm')) [77,101,109,111,114,121] (me !=me')) [83,116,101,112,115] (st !=st')) [79,112,115] (!(all2 strB ops ops'))) (by omega) [83,111,117,114,99,101] (neS src src')) ?_
 (conv=>whnf)<;>rfl
theorem x_bsame (a b:Mf) (ha:a.ops.length≤1000000):DCalls Tryz.prog 22 [a.V,b.V] (boo ((((difF a b).length:Nat):Int)==0)):=by
 refine sx Tryz.func22 (by kernel_rfl) ?_
 conv=>whnf
 refine⟨_,x_differ a b ha,?_⟩
 conv=>whnf
 exact fin_boo (by rw[List.length_map])
end Go.Proofs.YtjmabkpcahmnpaaGreatDoor
namespace Go.Proofs.YtjmabkpcahmnpaaGreatDoor
open Go.RowKit
section
variable {P:Program} {T:Tab} {B:Fr} {w0:World} {N:Names} {S:Sets} {t:List V} {m:List (Option Bk)} {a:Act} {w:World}
end
end Go.Proofs.YtjmabkpcahmnpaaGreatDoor
namespace Go.Proofs.YtjmabkpcahmnpaaGreatDoor
open Go.RowKit
section
variable {P:Program} {T:Tab} {B:Fr} {w0:World} {N:Names} {S:Sets} {t:List V} {m:List (Option Bk)} {a:Act} {w:World}
end
end Go.Proofs.YtjmabkpcahmnpaaGreatDoor
namespace Go.Proofs.YtjmabkpcahmnpaaGreatDoor
open Go.RowKit
structure Vr where
 m:Mf
 n:Int
 dg:Bs
 at_:Int
 rt:Bool
def vrD (v:Vr):List D:=[.cv (.string (mk v.m.nm)),.cv (.int .i64 v.m.me),.cv (.int .i64 v.m.st),.sl 1 (v.m.ops.map strD),.cv (.string (mk v.m.src)),.cv (.int .i64 v.n),.cv (.string (mk v.dg)),.cv (.int .i64 v.at_),.cv (.bool v.rt)]
def vsC (l:List Vr):Cl:= .r 64 9 (l.map vrD)
abbrev Fns:=List (Bs×List Vr)
def vM (F:Fns):List (ByteArray×Cl):=F.map fun e=>(mk e.1,vsC e.2)
theorem getE_vM:∀(F:Fns) (t:Bs),getE (vM F) (mk t)=(getB F t).map vsC
 |[],_=>rfl
 |(k,x)::l,t=>by
  simp only[vM,List.map_cons,getE,getB]
  by_cases h:k=t
  ·rw[if_pos (by rw[h]),if_pos h];rfl
  ·rw[if_neg (fun e=>h (mk_inj e)),if_neg h];exact getE_vM l t
theorem putE_vM:∀(F:Fns) (t:Bs) (x:List Vr),putE (vM F) (mk t) (vsC x)=vM (putB F t x)
 |[],_,_=>rfl
 |(k,y)::l,t,x=>by
  simp only[vM,List.map_cons,putE,putB]
  by_cases h:k=t
  ·rw[if_pos (by rw[h]),if_pos h,h];rfl
  ·rw[if_neg (fun e=>h (mk_inj e)),if_neg h]
   simp only[List.map_cons]
   exact congrArg _ (putE_vM l t x)
abbrev rgM (F:Fns) (now:Int):List Bk:=[.box [.ow 1 0,int now],.asr 0 (mapC (vM F)) []]
theorem x_rgnew:MCalls Tryz.prog 15 [] [] (.bx 0 0) (rgM [] 0):=by
 refine msxm [] Tryz.func15 (by kernel_rfl) (by kernel_rfl) ?_
 conv=>whnf
 refine at_tr (ot_makeMap rfl rfl rfl) ?_
 conv=>whnf
 exact⟨rfl,rfl,rfl⟩
theorem x_rgmade (F:Fns) (now:Int):MCallsG true Tryz.prog 20 [.bx 0 0] (rgM F now) (boo true) (rgM F now):=by
 refine msxx [] Tryz.func20 (by kernel_rfl) (by kernel_rfl) (by rfl) ?_
 conv=>whnf
 refine known true rfl ?_
 conv=>whnf
 refine at_rd (rd_map_nil rfl Tryz.underlying32 (.inr ⟨rfl,rfl⟩) rfl rfl rfl) ?_
 conv=>whnf
 exact⟨⟨rfl,rfl,rfl⟩,rfl⟩
theorem x_rgnil:DCalls Tryz.prog 20 [.cv (.pointer none)] (boo false):=by
 refine sx Tryz.func20 (by kernel_rfl) ?_
 conv=>whnf
 refine known false rfl ?_
 (conv=>whnf)<;>rfl
section
variable {o:Oper} {E:Operand→V} {m:List (Option Bk)} {n k d kd:Nat} {x i:Operand} {F:Fns} {t:Bs} {l:List Vr}
abbrev vsR (l:List Vr):Bk:= .row 0 64 9 false (l.map vrD)
theorem open_v (ho:o.op= .lookup 32 x i false) (hx:E x= .ow n k) (hi:E i=bstr t) (hd:m[d]?=some none) (hm:m[n]?=some (some (.asr k (mapC (vM F)) []))) (hg:getB F t=some l):
  OpTr Tryz.prog o E m (.ow d 0) ((m.set n (some (.asr k (mapC (putE (vM F) (mk t) (.o 0))) [.ow d 0]))).set d (some (vsR l))):=
 ot_look1 (d:=d) (es:=vM F) (outs:=[]) (z:= .slice none 0 0) ho hd Tryz.underlying32 Tryz.underlying9 (by kernel_rfl) hx hi hm (by rw[getE_vM,hg];rfl)
theorem open_v0 (ho:o.op= .lookup 32 x i false) (hx:E x= .ow n k) (hi:E i=bstr t) (hd:m[d]?=some none) (hm:m[n]?=some (some (.asr k (mapC (vM F)) []))) (hg:getB F t=none):
  OpTr Tryz.prog o E m (.ow d 0) (m.set d (some (.row 0 64 9 true []))):=
 ot_look0 (d:=d) (E':=64) (sz':=9) (es:=vM F) (outs:=[]) ho hd (by decide) Tryz.underlying32 Tryz.underlying9 (by kernel_rfl) hx hi hm (by rw[getE_vM,hg];rfl)
theorem vs_noO (F:Fns) (i:Nat):useO ((vM F).map (·.2)) i=false:=
 useO_none fun c hc=>by
  obtain⟨e,he,rfl⟩:=List.mem_map.1 hc
  obtain⟨e',_,rfl⟩:=List.mem_map.1 he
  rfl
theorem putE_same {α:Type}:∀{l:List (ByteArray×α)} {t:ByteArray} {c:α},getE l t=some c→putE l t c=l
 |[],_,_,h=>by simp[getE] at h
 |(k,d)::l,t,c,h=>by
  simp only[getE] at h
  simp only[putE]
  split
  ·rename_i e;rw[if_pos e] at h;cases h;rw[e]
  ·rename_i e;rw[if_neg e] at h;rw[putE_same h]
theorem close_v {f:Bool} {l':List Vr} (hg:getB F t=some l) (hm:m[n]?=some (some (.asr k (mapC (putE (vM F) (mk t) (.o 0))) [.ow d kd]))) (hd:m[d]?=some (some (.row kd 64 9 f (l'.map vrD)))):
  GhM m ((m.set n (some (.asr k (mapC (vM (putB F t l'))) []))).set d (some (.row (kd+1) 64 9 true []))):=by
 have hg':getE (vM F) (mk t)=some (vsC l):=by rw[getE_vM,hg];rfl
 have:=gh_closeE (es:=vM F) (outs:=[]) hg' (vs_noO F 0) hm hd
 rwa [show putE (vM F) (mk t) (.r 64 9 (l'.map vrD))=vM (putB F t l') from putE_vM F t l'] at this
end
theorem putB_same {α:Type}:∀{l:List (Bs×α)} {t:Bs} {c:α},getB l t=some c→putB l t c=l
 |[],_,_,h=>by simp[getB] at h
 |(k,d)::l,t,c,h=>by
  simp only[getB] at h
  simp only[putB]
  split
  ·rename_i e;rw[if_pos e] at h;cases h;rw[e]
  ·rename_i e;rw[if_neg e] at h;rw[putB_same h]
end Go.Proofs.YtjmabkpcahmnpaaGreatDoor
namespace Go.Proofs.YtjmabkpcahmnpaaGreatDoor
open Go.RowKit
abbrev rgO (F:Fns) (t:Bs) (l:List Vr) (now:Int):List Bk:=[.box [.ow 1 0,int now],.asr 0 (mapC (putE (vM F) (mk t) (.o 0))) [.ow 2 0],vsR l]
def mdM:List (Nat×Bool):=[(20,false)]
theorem x_findY (F:Fns) (now:Int) (t:Bs) (l:List Vr) (hg:getB F t=some l) (k:Nat) (hk:k<l.length) (hl:l.length≤1000000):MCalls Tryz.prog 25 [.bx 0 0,bstr t,int ((k:Int)+1)] (rgM F now) (.tu [.oq 2 0 9 k 0,int 0]) (rgO F t l now):=by
 have hll:(l.map vrD).length=l.length:=List.length_map _
 refine msxm mdM Tryz.func25 (by kernel_rfl) (by kernel_rfl) ?_
 conv=>whnf
 refine mcall (T:=TM mdM) (φ:=[]) (x_rgmade F now) ?_
 conv=>whnf
 refine known false rfl ?_
 conv=>whnf
 refine at_tr (open_v (n:=31) (d:=17) rfl rfl rfl rfl rfl hg) ?_
 conv=>whnf
 refine known false (by simp;omega) ?_
 conv=>whnf
 refine known false (by simp;omega) ?_
 conv=>whnf
 rw[show IntKind.i64.wrap ((k:Int)+1 - 1)=(k:Int) by rw[wrap_in (by omega)];omega]
 refine⟨Int.natCast_nonneg k,by rw[hll,Int.toNat_natCast];exact hk,?_⟩
 conv=>whnf
 exact⟨rfl,rfl,rfl⟩
theorem x_findN (F:Fns) (now:Int) (t:Bs) (n:Int) (h:n<1∨(((getB F t).getD []).length:Int)<n) (_hl:((getB F t).getD []).length≤1000000):MCalls Tryz.prog 25 [.bx 0 0,bstr t,int n] (rgM F now) (.tu [.cv (.pointer none),int 5]) (rgM F now):=by
 cases hg:getB F t with
 |none=>
  rw[hg] at h
  simp only[Option.getD_none,List.length_nil] at h
  refine msxm mdM Tryz.func25 (by kernel_rfl) (by kernel_rfl) ?_
  conv=>whnf
  refine mcall (T:=TM mdM) (φ:=[]) (x_rgmade F now) ?_
  conv=>whnf
  refine known false rfl ?_
  conv=>whnf
  refine at_tr (open_v0 (n:=31) (d:=17) rfl rfl rfl rfl rfl hg) ?_
  conv=>whnf
  rintro(_|_) h1
  ·have h1:¬n<1:=by simpa using h1
   conv=>whnf
   refine known true (by simp;omega) ?_
   conv=>whnf
   exact⟨rfl,rfl,rfl⟩
  ·conv=>whnf
   exact⟨rfl,rfl,rfl⟩
 |some l=>
  rw[hg] at h
  simp only[Option.getD_some] at h
  have hll:(l.map vrD).length=l.length:=List.length_map _
  have hsame:putB F t l=F:=putB_same hg
  refine msxg mdM Tryz.func25 (by kernel_rfl) (by kernel_rfl) ?_
  conv=>whnf
  refine mcall (T:=TM mdM) (φ:=[]) (x_rgmade F now) ?_
  conv=>whnf
  refine known false rfl ?_
  conv=>whnf
  refine at_tr (open_v (n:=31) (d:=17) rfl rfl rfl rfl rfl hg) ?_
  conv=>whnf
  rintro(_|_) h1
  ·have h1:¬n<1:=by simpa using h1
   conv=>whnf
   refine known true (by simp;omega) ?_
   conv=>whnf
   refine⟨_,GhM.gh (close_v (n:=31) (d:=17) (l':=l) hg rfl rfl),?_⟩
   rw[hsame]
   exact⟨rfl,rfl,rfl⟩
  ·conv=>whnf
   refine⟨_,GhM.gh (close_v (n:=31) (d:=17) (l':=l) hg rfl rfl),?_⟩
   rw[hsame]
   exact⟨rfl,rfl,rfl⟩
end Go.Proofs.YtjmabkpcahmnpaaGreatDoor
namespace Go.Proofs
open Go.Shelf
def Tryz.laysRg216_ren:Go.Shelf.Ren:=⟨fun|16=>36|n=>n,fun|24=>22|9=>9|4=>4|n=>n,fun|n=>n⟩
theorem Tryz.laysRg216:Go.Proofs.Lays2.n16 Tryz.prog Tryz.laysRg216_ren:={
 mixed:=by kernel_rfl
 f16:=Tryz.func36.trans (congrArg some (by kernel_rfl))
 t4:=Tryz.underlying4
 a4:=Tryz.isAgg4
 z4:=Tryz.sizeOf4
 v4:=Tryz.zeroValue4
 t9:=Tryz.underlying9
 a9:=Tryz.isAgg9
 z9:=Tryz.sizeOf9
 v9:=Tryz.zeroValue9
 t24:=Tryz.underlying22
 a24:=Tryz.isAgg22
 z24:=Tryz.sizeOf22
 v24:=Tryz.zeroValue22
 i9:=by kernel_rfl}
open Go.RowKit Go.Lib in
theorem Tryz.clone_nil (n c:Nat) (w:World):
  Calls Tryz.prog 36 #[.slice none n c] w fun e w'=>e= .returned (.slice none 0 0)∧w'=w:=Any.slices_Clone_string_nil Tryz.laysRg216 n c w
open Go.RowKit Go.Lib in
theorem Tryz.clone_zero (a:Addr) (c:Nat) (w:World):
  Calls Tryz.prog 36 #[.slice (some a) 0 c] w fun e w'=>∃v',e= .returned v'∧w'.ownsRow w.heap.size 9 1 v' 0 []∧v'≠ .slice none 0 0∧Below w.heap.size w w':=Any.slices_Clone_string_zero Tryz.laysRg216 a c w
end Go.Proofs
namespace Go.Proofs.YtjmabkpcahmnpaaGreatDoor
open Go.RowKit Go.Shelf
theorem flatS0 (ks:List Bs):Flat (ks.map strD):=by
 intro x hx d hd
 obtain⟨n,_,rfl⟩:=List.mem_map.1 hx
 simp[strD] at hd
 exact⟨_,hd⟩
theorem x_clone (l:List Bs) (hl:l.length≤1000000):DCalls Tryz.prog 36 [strsV l] (strsV l):=by
 by_cases h0:l=[]
 ·subst h0
  refine⟨⟨_,Tryz.func36,by kernel_rfl,by kernel_rfl⟩,fun w vs hi hvs=>?_⟩
  obtain⟨v0,rfl⟩:∃v0,vs=[v0]:=by
   have:=hvs.1
   match vs,this with
   |[a],_=>exact⟨a,rfl⟩
  have r0:=hvs.2 0 _ rfl
  simp only[List.getD_eq_getElem?_getD,List.getElem?_cons_zero,Option.getD_some] at r0
  cases r0
  rename_i hr
  generalize hxs:List.map strD []=ys at hr
  cases hr with
  |nil _ A cap=>
   cases A with
   |none=>
    refine(Tryz.clone_nil 0 cap w).mono ?_
    rintro e w' ⟨rfl,rfl⟩
    exact⟨_,rfl,.sl _ _ _ _ (.nil _ none 0),Below.refl _ _⟩
   |some a=>
    refine(Tryz.clone_zero a cap w).mono ?_
    rintro e w' ⟨v',rfl,h1,_,hb⟩
    exact⟨_,rfl,.sl _ _ _ _ (sl_of_own (xs:=[]) h1 (by simp) rfl (by simp)),hb⟩
  |sl _ _ b o' cap u hS hx hcap hc hd=>
   subst hxs
   refine(Tryz.clone_zero _ cap w).mono ?_
   rintro e w' ⟨v',rfl,h1,_,hb⟩
   exact⟨_,rfl,.sl _ _ _ _ (sl_of_own (xs:=[]) h1 (by simp) rfl (by simp)),hb⟩
 have hne:l.map strD≠[]:=by simpa using h0
 refine sx Tryz.func36 (by kernel_rfl) ?_
 conv=>whnf
 refine⟨hne,?_⟩
 conv=>whnf
 refine known false rfl ?_
 conv=>whnf
 refine⟨flatS0 l,by rw[List.length_map];show(0+l.length)*16≤_;omega,?_⟩
 (conv=>whnf)<;>rfl
theorem x_own (m:Mf) (hm:m.ops.length≤1000000):DCalls Tryz.prog 24 [m.V] m.V:=by
 refine sx Tryz.func24 (by kernel_rfl) ?_
 conv=>whnf
 refine⟨_,x_clone m.ops hm,?_⟩
 (conv=>whnf)<;>rfl
def noMf:Mf:=⟨[],0,0,[],[]⟩
def getP (F:Fns) (t:Bs) (n:Int):Mf×Int:=match((getB F t).getD [])[(n - 1).toNat]? with
 |some v=>if n<1 then(noMf,5) else if v.rt then(noMf,18) else(v.m,0)
 |none=>(noMf,5)
def fdG:List (Nat×Bool):=[(25,false)]
theorem x_getN (F:Fns) (now:Int) (t:Bs) (n:Int) (h:n<1∨(((getB F t).getD []).length:Int)<n) (hl:((getB F t).getD []).length≤1000000):MCalls Tryz.prog 13 [.bx 0 0,bstr t,int n] (rgM F now) (.tu [noMf.V,int 5]) (rgM F now):=by
 refine msxm fdG Tryz.func13 (by kernel_rfl) (by kernel_rfl) ?_
 conv=>whnf
 refine mcall (T:=TM fdG) (φ:=[]) (x_findN F now t n h hl) ?_
 conv=>whnf
 refine known true rfl ?_
 conv=>whnf
 exact⟨rfl,rfl,rfl⟩
theorem x_getY (F:Fns) (now:Int) (t:Bs) (l:List Vr) (hg:getB F t=some l) (k:Nat) (hk:k<l.length) (hl:l.length≤1000000) (ho:l[k].m.ops.length≤1000000):MCalls Tryz.prog 13 [.bx 0 0,bstr t,int ((k:Int)+1)] (rgM F now) (.tu [(if l[k].rt then noMf else l[k].m).V,int (if l[k].rt then 18 else 0)]) (rgM F now):=by
 have hsame:putB F t l=F:=putB_same hg
 have hgk:(l.map vrD)[k]?=some (vrD l[k]):=by rw[List.getElem?_map,List.getElem?_eq_getElem hk];rfl
 refine msxg fdG Tryz.func13 (by kernel_rfl) (by kernel_rfl) ?_
 conv=>whnf
 refine mcallV (T:=TM fdG) (φ:=[50]) (ρ:=[34,35]) (gf:=false) (x_findY F now t l hg k hk hl) ?_ (ln:=true)
 conv=>whnf
 refine known false rfl ?_
 conv=>whnf
 refine⟨_,hgk,?_⟩
 conv=>whnf
 rintro(_|_) h1
 ·rw[h1]
  conv=>whnf
  refine⟨_,hgk,?_⟩
  conv=>whnf
  refine⟨_,x_own l[k].m ho,?_⟩
  conv=>whnf
  refine⟨_,GhM.gh (close_v (n:=35) (d:=50) (l':=l) hg rfl rfl),?_⟩
  rw[hsame]
  exact⟨rfl,rfl,rfl⟩
 ·rw[h1]
  conv=>whnf
  refine⟨_,GhM.gh (close_v (n:=35) (d:=50) (l':=l) hg rfl rfl),?_⟩
  rw[hsame]
  exact⟨rfl,rfl,rfl⟩
def retV (v:Vr):Vr:={v with rt:=true}
theorem x_retN (F:Fns) (now:Int) (t:Bs) (n:Int) (h:n<1∨(((getB F t).getD []).length:Int)<n) (hl:((getB F t).getD []).length≤1000000):MCalls Tryz.prog 12 [.bx 0 0,bstr t,int n] (rgM F now) (int 5) (rgM F now):=by
 refine msxm fdG Tryz.func12 (by kernel_rfl) (by kernel_rfl) ?_
 conv=>whnf
 refine mcall (T:=TM fdG) (φ:=[]) (x_findN F now t n h hl) ?_
 conv=>whnf
 refine known true rfl ?_
 conv=>whnf
 exact⟨rfl,rfl,rfl⟩
theorem set_rt (l:List Vr) (k:Nat) (hk:k<l.length):(l.map vrD).set k (List.take (0+5+3) (vrD l[k])++[D.cv (.bool true)]++List.drop (0+5+3+[D.cv (.bool true)].length) (vrD l[k]))=(l.set k (retV l[k])).map vrD:=by
 rw[List.map_set];rfl
theorem x_retY (F:Fns) (now:Int) (t:Bs) (l:List Vr) (hg:getB F t=some l) (k:Nat) (hk:k<l.length) (hl:l.length≤1000000):
  MCalls Tryz.prog 12 [.bx 0 0,bstr t,int ((k:Int)+1)] (rgM F now) (int (if l[k].rt then 10 else 0)) (rgM (putB F t (l.set k (retV l[k]))) now):=by
 have hgk:(l.map vrD)[k]?=some (vrD l[k]):=by rw[List.getElem?_map,List.getElem?_eq_getElem hk];rfl
 refine msxg fdG Tryz.func12 (by kernel_rfl) (by kernel_rfl) ?_
 conv=>whnf
 refine mcallV (T:=TM fdG) (φ:=[50]) (ρ:=[30,31]) (gf:=false) (x_findY F now t l hg k hk hl) ?_ (ln:=true)
 conv=>whnf
 refine known false rfl ?_
 conv=>whnf
 refine⟨_,hgk,?_⟩
 conv=>whnf
 rintro(_|_) h1
 ·rw[h1]
  conv=>whnf
  refine⟨_,hgk,Nat.le_refl _,?_⟩
  rw[set_rt l k hk]
  conv=>whnf
  refine⟨_,GhM.gh (close_v (n:=31) (d:=50) (l':=l.set k (retV l[k])) hg rfl rfl),?_⟩
  exact⟨rfl,rfl,rfl⟩
 ·have e:l.set k (retV l[k])=l:=by
   have:retV l[k]=l[k]:=by
    unfold retV
    cases hv:l[k] with
    |mk a b c d e'=>rw[hv] at h1;dsimp only at h1⊢;rw[h1]
   rw[this,List.set_getElem_self]
  rw[h1,e]
  conv=>whnf
  refine⟨_,GhM.gh (close_v (n:=31) (d:=50) (l':=l) hg rfl rfl),?_⟩
  exact⟨rfl,rfl,rfl⟩
end Go.Proofs.YtjmabkpcahmnpaaGreatDoor
namespace Go.Proofs.YtjmabkpcahmnpaaGreatDoor
open Go.RowKit
def opNoDefer (o:Oper):Bool:=match o.op with
 | .defer _=>false
 |_=>true
section
variable {P:Program} {T:Tab} {B:Fr} {w0:World} {N:Names} {S:Sets} {t t':List V} {m:List (Option Bk)} {a:Act} {w:World} {ops:Array Oper} {r:Option Nat} {n:Nat}
abbrev fen (r:Option Nat):Fence:={Fence.wide with round:=r}
theorem calls_fen {f:FuncId} {args:Array Value} {R:Ending→World→Prop} (r:Option Nat) (h:Calls P f args w R):CallsIn (fen r) n P f args w R:=by
 have h1:=(callsIn_wide (n:=n)).2 h
 cases r with
 |none=>exact h1
 |some l=>exact CallsIn.inRound l h1
theorem Sat.drew (hs:Sat B w0 N S t m a w):Sat B w0 N S t m a w.drew:=
 ⟨hs.low.drew,hs.nodef,hs.tmps.mono (w:=w) (w':=w.drew) (NLe.refl _) (fun _ _ h=>h) (fun _ _ _=>rfl),fun k b hk=>(hs.blk k b hk).mono (w:=w) (w':=w.drew) rfl (NLe.refl _) (fun _ _ h=>h) (fun _ _ _=>rfl) (fun _ _ _ _ _=>rfl),hs.non,hs.apart,hs.data,hs.fresh,hs.own,hs.base,hs.old,hs.lent,hs.more.mono (w:=w) (w':=w.drew) (Nat.le_refl _) (fun _ _ h=>h.mono (w:=w) (w':=w.drew) (NLe.refl _) (fun _ _ h=>h) fun _ _ _=>rfl) hs.base fun _ _ h=> .inl h,hs.stay⟩
theorem wp_rnd {o:Oper} (hd:opNoDefer o=true) {next next':Act→World→Prop} {Q Q':Exit→Act→World→Prop} (h:o.wp P a w next Q) (hn:∀a w,next a w→next' a w) (hq:∀e a w,Q e a w→Q' e a w):o.wpIn (fen r) n P a w next' Q':=by
 refine⟨fun _ _=>trivial,?_⟩
 rw[Oper.semAt_plain (fen r) a.eval o (by intro c hc;simp[opNoDefer,hc] at hd)]
 unfold Oper.wp at h
 generalize (execOp a.eval o).run P w=rr at h⊢
 have hdep:∀{p:Prop},(fen r).depth.isSome=true→p:=fun h=>by simp[Fence.wide] at h
 cases rr with
 |ok x w'=>
  cases x<;>simp only[Oper.upon,Oper.uponIn] at h⊢ <;>first|exact hn _ _ h|exact h.elim|skip
  ·refine⟨fun h=>hdep h,?_⟩
   refine calls_fen r (Calls.mono h fun e w'' he=>?_)
   cases e with
   |returned u=>exact hn _ _ he
   |panicked c=>exact hq _ _ _ he
   |outgrown=>obtain⟨a,w,h⟩:=he;exact⟨a,w,hq _ _ _ h⟩
  ·refine⟨fun h=>hdep h,fun c cs _=>?_⟩
   obtain⟨v,w2,hr,st⟩:=h c cs
   exact⟨v,w2,hn _ _ hr,stepsIn_wide.2 st⟩
 |halt x w'=>cases x<;>simp only[Oper.upon,Oper.uponIn] at h⊢ <;>first|exact hq _ _ _ h|exact h.elim
theorem step_rnd (hT:TOk P T) (hs:Sat B w0 N S t m a w) {o:Oper} (hd:opNoDefer o=true) {v:V} {m':List (Option Bk)} (h:YieldsA P T ops o t m v m') {K:St→Prop} (hK:K ⟨putL t o.dst v,m'⟩)
  {K':Act→World→Prop} {Q:Exit→Act→World→Prop} (hKK:∀a w,OkSt B w0 K a w→K' a w):
  if Region.wanted o (yielded ops a.tmps) then o.wpIn (fen r) n P a w K' Q else(∀f,o.about P w a.eval=some f→(fen r).fn f)∧K' (a.put o.dst undef) w:=by
 rcases yields_wanted hs h with⟨hw,hTr⟩|⟨hw,rfl,rfl⟩
 ·rw[if_pos hw]
  have:=aCore_sound hT hs (hTr (fun v m'=>K ⟨putL t o.dst v,m'⟩) hK) Q
  refine wp_rnd hd this ?_ fun _ _ _ h=>h
  rintro a' w' ⟨u,rfl,N',S',v',m'',h1,h2,h3⟩
  exact hKK _ _ ⟨N',S',_,_,h1.put h2 o.dst,h3⟩
 ·rw[if_neg (by rw[hw];simp)]
  exact⟨fun _ _=>trivial,hKK _ _ ⟨N,S,_,_,hs.put (.cv _) o.dst,hK⟩⟩
theorem ops_rnd (hT:TOk P T) {K:St→Prop} {Q:Exit→Act→World→Prop} (rest:List Oper) (hKQ:∀a w,OkSt B w0 K a w→wpListIn (fen r) n P ops Q rest a w) (os:List Oper) (hd:os.all opNoDefer=true):
  ∀(a:Act) (w:World),OkSt B w0 (fun st=>awpOps P T ops os st K) a w→wpListIn (fen r) n P ops Q (os++rest) a w:=by
 induction os with
 |nil=>intro a w h;exact hKQ a w h
 |cons o os ih=>
  simp only[List.all_cons,Bool.and_eq_true] at hd
  rintro a w ⟨N,S,t,m,hs,h⟩
  simp only[awpOps] at h
  obtain⟨v,m',t',h1,h2,h3⟩:=aOp_spec h rfl
  rw[List.cons_append]
  unfold wpListIn
  exact step_rnd hT hs hd.1 h1 (K:=fun st=>∃t',nfEq st.t t'∧awpOps P T ops os ⟨t',st.m⟩ K) ⟨t',h2,h3⟩ fun a w ⟨N,S,t,m,hs,t',he,h⟩=>ih hd.2 a w ⟨N,S,t',m,hs.nf he,h⟩
theorem any_rnd (hT:TOk P T) (hd:ops.toList.all opNoDefer=true) {K:St→Prop} {Q:Exit→Act→World→Prop} (hKQ:∀a w,OkSt B w0 K a w→Q .normal a w):∀(fuel:Nat) (listed:Array Bool) (a:Act) (w:World),
  OkSt B w0 (awpAny P T ops K fuel listed) a w→wpAnyIn (fen r) n P .any ops Q fuel listed a w
 |0,listed,a,w,⟨N,S,t,m,hs,h⟩=>⟨h.1,hKQ _ _ ⟨N,S,t,m,hs,h.2⟩⟩
 |fuel+1,listed,a,w,⟨N,S,t,m,hs,h⟩=>by
  refine⟨fun h0=>hKQ _ _ ⟨N,S,t,m,hs,h.1 h0⟩,fun i hi=>?_⟩
  have:=h.2 i hi
  unfold wpOpIn
  cases ho:ops[i]? with
  |none=>rw[ho] at this;exact any_rnd hT hd hKQ fuel _ a w ⟨N,S,t,m,hs,this⟩
  |some o=>
   rw[ho] at this
   obtain⟨v,m',h1,h2⟩:=this
   exact step_rnd hT hs (List.all_eq_true.1 hd o (by have:=Array.mem_of_getElem? ho;simpa using this)) h1 h2 fun a w h=>any_rnd hT hd hKQ fuel _ a w h
theorem draw_rnd (hT:TOk P T) (hm:P.follows .mixedOrders=true) (hd:ops.toList.all opNoDefer=true) {K:St→Prop} {Q:Exit→Act→World→Prop} (hKQ:∀a w,OkSt B w0 K a w→Q .normal a w) {id:Nat}
  (h:OkSt B w0 (fun st=>DrawA P T ops st K) a w):(Code.region id ops true).wpIn (fen r) n P Q a w:=by
 refine wpIn_region_any hm (any_rnd (B:=B) (w0:=w0) hT hd (K:=fun st=>∃t',nfEq st.t t'∧K ⟨t',st.m⟩) (fun a w ⟨N,S,t,m,hs,t',he,h⟩=>hKQ a w ⟨N,S,t',m,hs.nf he,h⟩) _ _ _ _ ?_)
 obtain⟨N,S,t,m,hs,h⟩:=h
 have hcl:Closed ops (Array.replicate ops.size false):=by
  intro j o _ hj
  rcases Nat.lt_or_ge j ops.size with h'|h'
  ·simp[h'] at hj
  ·simp[h'] at hj
 have:awpAny P T ops (fun st=>∃t',nfEq st.t t'∧K ⟨t',st.m⟩) ops.size (Array.replicate ops.size false) ⟨t,m⟩:=by
  obtain⟨pl,h⟩:=h
  cases pl with
  |none=>
   obtain⟨hd,h⟩:=h
   simp only[drawOk,Bool.and_eq_true] at hd
   have:=any_lex (P:=P) (T:=T) hd.1 (Q:=K) ops.toList 0 (Array.replicate ops.size false) t t m rfl hcl (by simp) (by simpa using hd.2) h
   simpa using this
  |some p=>
   obtain⟨hd,h⟩:=h
   simp only[Bool.and_eq_true] at hd
   exact(plan_sound hd.1 p _ _ t t m rfl hcl hd.2.2 h).1 hd.2.1
 exact⟨N,S,t,m,hs.drew,this⟩
def plainC (F:Nat→Option Bool):Code→Bool
 | .region id ops _=>ops.toList.all opNoDefer&&(F (7000000+id)).isNone
 | .seq a b=>plainC F a&&plainC F b
 | .cond _ a b=>plainC F a&&plainC F b
 | .block _ a=>plainC F a
 | .loop _=>false
 | .scope _=>false
 |_=>true
theorem awp_in (hT:TOk P T) (hm:P.follows .mixedOrders=true):∀(c:Code) (K:Ex→St→Prop) (a:Act) (w:World),plainC T.fm c=true→OkSt B w0 (fun st=>awp P T c st K) a w→c.wpIn (fen r) n P (QK B w0 K) a w:=by
 intro c
 induction c with
 |skip=>rintro K a w - ⟨N,S,t,m,hs,h⟩;exact wpIn_skip ⟨N,S,t,m,hs,h⟩
 |region id ops draw=>
  rintro K a w hp ⟨N,S,t,m,hs,h⟩
  simp only[plainC,Bool.and_eq_true,Option.isNone_iff_eq_none] at hp
  obtain⟨hp,hj⟩:=hp
  simp only[awp,hj,joinK] at h
  cases draw with
  |true=>
   simp only[if_true] at h
   exact draw_rnd hT hm hp (K:=K .normal) (fun a w h=>h) ⟨N,S,t,m,hs,h⟩
  |false=>
   simp only[Bool.false_eq_true,if_false] at h
   have:=ops_rnd (r:=r) (n:=n) (Q:=QK B w0 K) hT (K:=K .normal) [] (fun a w h=>h) ops.toList hp a w ⟨N,S,t,m,hs,h⟩
   rw[List.append_nil] at this
   exact wpIn_region_list this
 |seq x y ihx ihy=>
  rintro K a w hp ⟨N,S,t,m,hs,h⟩
  simp only[plainC,Bool.and_eq_true] at hp
  simp only[awp] at h
  refine wpIn_seq (Go.wpIn_mono (ihx _ a w hp.1 ⟨N,S,t,m,hs,h⟩) ?_)
  intro e a w h
  cases e<;>simp only[QK,Exit.then] at h⊢
  ·exact ihy K a w hp.2 h
  ·exact h
  ·exact h
 |cond c x y ihx ihy=>
  rintro K a w hp ⟨N,S,t,m,hs,h⟩
  simp only[plainC,Bool.and_eq_true] at hp
  simp only[awp] at h
  have hr:=hs.ev c
  generalize hu:a.eval c=u at hr
  split at h
  ·rename_i hev
   rw[hev] at hr
   cases hr
   exact wpIn_cond hu (ihx K a w hp.1 ⟨N,S,t,m,hs,h⟩)
  ·rename_i hev
   rw[hev] at hr
   cases hr
   exact wpIn_cond hu (ihy K a w hp.2 ⟨N,S,t,m,hs,h⟩)
  ·rename_i b d hev
   rw[hev] at hr
   cases hr
   have h:=h b rfl
   rw[setK_eq] at h
   have hb:t[d]?=some (.cv (.bool b)):=by
    simp only[ev,List.getD_eq_getElem?_getD] at hev
    cases hd:t[d]? with
    |none=>rw[hd] at hev;cases hev
    |some v=>rw[hd] at hev;simp at hev;rw[hev]
   have hs':=hs.nf (nfEq.mark (rfl:nfEq t t) hb)
   refine wpIn_cond hu ?_
   cases b
   ·exact ihy K a w hp.2 ⟨N,S,_,m,hs',h⟩
   ·exact ihx K a w hp.1 ⟨N,S,_,m,hs',h⟩
  ·exact h.elim
 |block id x ih=>
  rintro K a w hp ⟨N,S,t,m,hs,h⟩
  simp only[plainC] at hp
  simp only[awp] at h
  refine wpIn_block (Go.wpIn_mono (ih _ a w hp ⟨N,S,t,m,hs,h⟩) ?_)
  intro e a w h
  cases e<;>simp only[QK,Exit.inBlock] at h⊢
  ·exact h
  ·rename_i id'
   by_cases he:id'=id
   ·simp only[he,if_true] at h⊢;exact h
   ·simp only[he,if_false] at h⊢;exact h
  ·exact h
 |loop c ih=>rintro K a w hp;cases hp
 |exit id=>rintro K a w - ⟨N,S,t,m,hs,h⟩;exact wpIn_exit ⟨N,S,t,m,hs,h⟩
 |ret=>rintro K a w - ⟨N,S,t,m,hs,h⟩;exact wpIn_ret ⟨N,S,t,m,hs,h⟩
 |scope x ih=>rintro K a w hp;cases hp
 |rangeFunc f ps x y ih1 ih2=>rintro K a w - ⟨N,S,t,m,hs,h⟩;exact h.elim
 |label l=>rintro K a w - ⟨N,S,t,m,hs,h⟩;exact wpIn_label ⟨N,S,t,m,hs,h⟩
 |goto l=>rintro K a w - ⟨N,S,t,m,hs,h⟩;exact h.elim
 |refuse why=>rintro K a w - ⟨N,S,t,m,hs,h⟩;exact h.elim
end
end Go.Proofs.YtjmabkpcahmnpaaGreatDoor
